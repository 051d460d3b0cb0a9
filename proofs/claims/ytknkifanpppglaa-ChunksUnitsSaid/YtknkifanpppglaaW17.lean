/- Walks: slices.IndexFunc and slices.DeleteFunc of chunks, as Unrefer calls them. -/
import Derived.Test.YtknkifanpppglaaW16
namespace Go.Proofs.Ytknkifanpppglaa
open Go.RowKit

theorem unref1_any (cs : List Value) (x id : Int) (ib : Nat) (h0 : cs[0]? = some (.int .i64 x)) (w : World) (hib : w.cell? ⟨ib, 0, none⟩ = some (.int .i64 id)) :
    Calls Try.prog 102 #[.agg cs.toArray, .pointer (some ⟨ib, 0, none⟩)] w fun e w' => e = .returned (.bool (x == id)) ∧ Mod [] w w' := by
  have hlt := Go.block_lt_of_cell hib
  go_enter Try.func102, Try.ntmps102
  go_wp2
  go_ret
  exact ⟨rfl, (Mod.refl _ _).alloc _⟩

set_option maxHeartbeats 1000000 in
theorem indexFunc_any (w : World) (b n cap ib k : Nat) (cs : List (Ck × Value)) (id : Int) (hn : n = cs.length) (hlen : n ≤ 65536) (hrow : ∀ (j : Nat) p, cs[j]? = some p → Row w b (j * 23) (p.1.cells p.2)) (hdig : ∀ p ∈ cs, p.1.dig.length = 16)
    (hib : w.cell? ⟨ib, 0, none⟩ = some (.int .i64 id)) (hkn : k < n) (hk : ∀ p, cs[k]? = some p → p.1.id = id) (hlt : ∀ (j : Nat) p, j < k → cs[j]? = some p → p.1.id ≠ id) :
    Calls Try.prog 128 #[.slice (some ⟨b, 0, none⟩) n cap, .func (.func 102) #[] #[.pointer (some ⟨ib, 0, none⟩)]] w fun e w' => e = .returned (.int .i64 k) ∧ Mod [] w w' := by
  have HR := Lib.hid hrow
  have HD := Lib.hid hdig
  have HK := Lib.hid hk
  have HL := Lib.hid hlt
  have HN := Lib.hid hn
  clear hrow hdig hk hlt hn
  go_enter Try.func128, Try.ntmps128
  go_wp2
  go_loopw [8] (fun s8 wr => ∃ j : Nat, j ≤ k ∧ s8 = .int .i64 j ∧ Mod [] w wr) (fun s8 _ => n - (intOf s8).toNat)
  case atStart => exact ⟨0, Nat.zero_le _, rfl, Mod.refl _ _⟩
  case round =>
    obtain ⟨j, hj, rfl, hm⟩ := hrel
    obtain ⟨p, hp⟩ : ∃ p, cs[j]? = some p := ⟨_, List.getElem?_eq_getElem (by have := HN.out; omega)⟩
    have hrw : Row wr b (j * 23) (p.1.cells p.2) := (HR.out j p hp).mod hm (by simp)
    have hd := HD.out p (List.mem_of_getElem? hp)
    have hib' := hm.cell hib (by simp)
    have HP := Lib.hid hp
    have HDd := Lib.hid hd
    clear hp hd
    by_cases hjk : j = k
    · subst hjk
      have hx : (p.1.id == id) = true := by simpa using HK.out p HP.out
      go_wp2_with (first | (refine wpList_load_at rfl 45 (.tmp 14) rfl _ Try.underlying45 rfl 23 info45 b (j * 23) (p.1.cells p.2) rfl hrw (by rw [Ck.cells_len, HDd.out]) ?_) | (go_at_call 102; refine (unref1_any _ p.1.id id ib rfl _ hib').mono ?_; rintro e w' ⟨rfl, hm1⟩; rw [hx]))
      go_ret
      exact ⟨rfl, hm.trans_nil hm1⟩
    · have hx : (p.1.id == id) = false := by simpa using HL.out j p (by omega) HP.out
      go_wp2_with (first | (refine wpList_load_at rfl 45 (.tmp 14) rfl _ Try.underlying45 rfl 23 info45 b (j * 23) (p.1.cells p.2) rfl hrw (by rw [Ck.cells_len, HDd.out]) ?_) | (go_at_call 102; refine (unref1_any _ p.1.id id ib rfl _ hib').mono ?_; rintro e w' ⟨rfl, hm1⟩; rw [hx]))
      go_roundw
      case rel => exact ⟨j + 1, by omega, by go_num, hm.trans_nil hm1⟩
      case measure => simp [intOf]; omega

theorem Refs.sliceLen {w : World} {rv : Value} {r : List (Int × Int)} (h : Refs w rv r) : ∃ a c, rv = .slice a r.length c := by
  rcases h.shape with ⟨rfl, rfl⟩ | ⟨b, cap, rfl, _⟩ <;> exact ⟨_, _, rfl⟩

theorem zrow_ck : ((Try.prog.info? 45).bind (·.zero)).map (·.cells.toList) = some zeroCells := by kernel_rfl

/-- the rows after element k has been struck and the rest moved down to place j - 1 -/
def delRows (R es : List (List Value)) (k j : Nat) : List (List Value) := splice R k ((es.drop (k + 1)).take (j - (k + 1)))

theorem delRows_len (R es : List (List Value)) (k j n : Nat) (hn : es.length = n) (hR : n ≤ R.length) (hk : k < n) : (delRows R es k j).length = R.length := by
  unfold delRows
  exact length_splice _ _ _ (by simp; omega)

theorem delRows_get (R es : List (List Value)) (k j n : Nat) (hn : es.length = n) (ht : R.take n = es) (hR : n ≤ R.length) (hk : k < n) (hj : k + 1 ≤ j) (hjn : j < n) : (delRows R es k j)[j]? = es[j]? := by
  unfold delRows
  rw [splice_getge _ _ _ _ (by simp; omega) (by simp; omega), ← ht, List.getElem?_take, if_pos hjn]

theorem delRows_succ (R es : List (List Value)) (k j n : Nat) (r : List Value) (hn : es.length = n) (hR : n ≤ R.length) (hk : k < n) (hj : k + 1 ≤ j) (hr : es[j]? = some r) : delRows R es k (j + 1) = (delRows R es k j).set (j - 1) r := by
  unfold delRows
  have e : (es.drop (k + 1)).take (j + 1 - (k + 1)) = (es.drop (k + 1)).take (j - (k + 1)) ++ [r] := by
    rw [show j + 1 - (k + 1) = (j - (k + 1)) + 1 by omega]
    have hg : (es.drop (k + 1))[j - (k + 1)]? = some r := by rw [List.getElem?_drop, show k + 1 + (j - (k + 1)) = j by omega]; exact hr
    have h2 := List.getElem?_eq_some_iff.1 hg
    rw [List.take_succ_eq_append_getElem h2.1, h2.2]
  have hjn := (List.getElem?_eq_some_iff.1 hr).1
  rw [e, splice_snoc _ _ _ _ (by simp; omega)]
  congr 1
  simp; omega

theorem delRows_end (R es : List (List Value)) (k n : Nat) (z : List (List Value)) (hn : es.length = n) (ht : R.take n = es) (hR : n ≤ R.length) (hk : k < n) : (splice (delRows R es k n) (n - 1) z).take (n - 1) = es.eraseIdx k := by
  have h1 : (splice (delRows R es k n) (n - 1) z).take (n - 1) = (delRows R es k n).take (n - 1) := by
    unfold splice
    have hl := delRows_len R es k n n hn hR hk
    rw [List.take_append_of_le_length (by rw [List.length_take, hl]; omega), List.take_take, Nat.min_self]
  rw [h1]
  unfold delRows splice
  have e1 : (es.drop (k + 1)).take (n - (k + 1)) = es.drop (k + 1) := List.take_of_length_le (by simp; omega)
  have e2 : R.take k = es.take k := by rw [← ht, List.take_take, Nat.min_eq_left (by omega)]
  rw [e1, e2, ← List.append_assoc, List.take_append_of_le_length (by simp; omega), List.take_of_length_le (by simp; omega), List.eraseIdx_eq_take_drop_succ]

def DelPost (b n cap : Nat) (es' : List (List Value)) (w : World) (e : Ending) (w' : World) : Prop :=
  e = .returned (.slice (some ⟨b, 0, none⟩) (n - 1) cap) ∧ Own w' 45 23 (.slice (some ⟨b, 0, none⟩) (n - 1) cap) es' ∧ Mod [b] w w'

set_option maxRecDepth 100000 in
set_option maxHeartbeats 2000000 in
theorem deleteFunc_any (w : World) (b n cap ib k : Nat) (cs : List (Ck × Value)) (id : Int) (hown : Own w 45 23 (.slice (some ⟨b, 0, none⟩) n cap) (cs.map fun p => p.1.cells p.2)) (hlen : n ≤ 65536) (h1 : ∀ p ∈ cs, p.2.oneCell' = true)
    (hib : w.cell? ⟨ib, 0, none⟩ = some (.int .i64 id)) (hne : ib ≠ b) (hkn : k < n) (hk : ∀ p, cs[k]? = some p → p.1.id = id) (hoth : ∀ (j : Nat) p, j ≠ k → cs[j]? = some p → p.1.id ≠ id) :
    Calls Try.prog 101 #[.slice (some ⟨b, 0, none⟩) n cap, .func (.func 102) #[] #[.pointer (some ⟨ib, 0, none⟩)]] w (DelPost b n cap ((cs.map fun p => p.1.cells p.2).eraseIdx k) w) := by
  obtain ⟨R, hblk, hRl, hRt, hnl, hnc, hcm⟩ := hown.blk
  have hnl' : n = cs.length := by rw [hnl, List.length_map]
  have hrow : ∀ (j : Nat) p, cs[j]? = some p → Row w b (j * 23) (p.1.cells p.2) := fun j p hp => hown.row j _ (by simp [hp])
  have hdig : ∀ p ∈ cs, p.1.dig.length = 16 := by
    intro p hp
    have := hown.1 (p.1.cells p.2) (List.mem_map.2 ⟨p, hp, rfl⟩)
    rw [Ck.cells_len] at this; omega
  have hcall := indexFunc_any w b n cap ib k cs id hnl' hlen hrow hdig hib hkn hk (fun j p hj hp => hoth j p (by omega) hp)
  have hrn : n ≤ R.length := by omega
  have hel : (cs.map fun p => p.1.cells p.2).length = n := hnl.symm
  have hb1 := hblk.mod (Mod.refl [] w) (by simp)
  have HC := Lib.hid hcall
  have HB := Lib.hid hblk
  have HRl := Lib.hid hRl
  have HRt := Lib.hid hRt
  have HN := Lib.hid hnl'
  have HD := Lib.hid hdig
  have HO := Lib.hid hoth
  have H1 := Lib.hid h1
  have HEl := Lib.hid hel
  have hk1 : ((k : Int) == -1) = false := by simp
  have hnl2 := hown.lt b rfl
  clear hown hblk hRl hRt hnl hnl' hrow hdig hcall hk hoth hb1 h1 hel
  go_enter Try.func101, Try.ntmps101
  go_wp2_with (go_at_call 128; refine HC.out.mono ?_; rintro e w1 ⟨rfl, hm1⟩)
  go_loopw [5, 6] (fun s5 s6 wr => ∃ j : Nat, k + 1 ≤ j ∧ j ≤ n ∧ s6 = .int .i64 j ∧ s5 = .int .i64 (j - 1 : Nat) ∧ Hid (Blk wr b 45 23 (delRows R (cs.map fun p => p.1.cells p.2) k j)) ∧ Mod [b] w wr) (fun _ s6 _ => n - (intOf s6).toNat)
  case atStart =>
    refine ⟨k + 1, Nat.le_refl _, by omega, rfl, rfl, ?_, hm1.nil⟩
    have : delRows R (cs.map fun p => p.1.cells p.2) k (k + 1) = R := by unfold delRows; rw [Nat.sub_self, List.take_zero, splice_nil]
    show Blk _ _ _ _ _
    rw [this]
    exact HB.out.mod hm1 (by simp)
  case round =>
    obtain ⟨j, hj1, hj2, rfl, rfl, hbr, hm⟩ := hrel
    have hib' := hm.cell hib (by simpa using hne)
    have hsz := hm.size
    by_cases hjn : j < n
    · obtain ⟨p, hp⟩ : ∃ p, cs[j]? = some p := ⟨_, List.getElem?_eq_getElem (by have := HN.out; omega)⟩
      have hpe : (cs.map fun p => p.1.cells p.2)[j]? = some (p.1.cells p.2) := by simp [hp]
      have hget := delRows_get R _ k j n HEl.out HRt.out hrn hkn hj1 hjn
      have hsucc := delRows_succ R _ k j n _ HEl.out hrn hkn hj1 hpe
      have hdl := delRows_len R (cs.map fun p => p.1.cells p.2) k j n HEl.out hrn hkn
      rw [hpe] at hget
      have hrw : Row wr b (j * 23) (p.1.cells p.2) := hbr.out.row hget
      have hd := HD.out p (List.mem_of_getElem? hp)
      have hp1 := H1.out p (List.mem_of_getElem? hp)
      have hx : (p.1.id == id) = false := by simpa using HO.out j p (by omega) hp
      have HS := Lib.hid hsucc
      have HDl := Lib.hid hdl
      have HDd := Lib.hid hd
      have HP1 := Lib.hid hp1
      obtain ⟨i, rfl⟩ : ∃ i, j = i + 1 := ⟨j - 1, by omega⟩
      rw [Nat.add_sub_cancel] at *
      clear hp hpe hget hsucc hd hdl hp1
      go_wp2_with (first | (refine wpList_load_at rfl 45 (.tmp 24) rfl _ Try.underlying45 rfl 23 info45 b ((i + 1) * 23) (p.1.cells p.2) rfl hrw (by rw [Ck.cells_len, HDd.out]) ?_) | (refine wpList_store_at rfl 45 (.tmp 7) (.tmp 25) rfl 23 info45 wr.heap.size 0 45 zeroCells (p.1.cells p.2) rfl rfl (heap_alloc_at _ _) (by rw [Ck.cells_len, HDd.out]) (oneCell_ck HP1.out) (by simp [zeroCells, Ck.cells_len, HDd.out]) ?_; intro w2 hhw2 hsw2; have hmw2 := ((Mod.refl [] wr).alloc (.cells zeroCells.toArray 45)).trans hsw2 (by simp); rw [splice_all _ _ (by simp [zeroCells, Ck.cells_len, HDd.out])] at hhw2; have roww2 := Row.of_heap hhw2; have HHw2 := Lib.hid hhw2; clear hhw2; have hib2 := hmw2.cell hib' (by simp); have hb2 := hbr.out.mod hmw2 (by simp); have HB2 := Lib.hid hb2; clear hb2) | (refine wpList_load_at rfl 45 (.tmp 7) rfl _ Try.underlying45 rfl 23 info45 wr.heap.size (0) (p.1.cells p.2) rfl roww2 (by rw [Ck.cells_len, HDd.out]) ?_) | (go_at_call 102; refine (unref1_any _ p.1.id id ib rfl _ hib2).mono ?_; rintro e w3 ⟨rfl, hm3⟩; rw [hx]; have hib3 := hm3.cell hib2 (by simp); have hb3 := HB2.out.mod hm3 (by simp); have HB3 := Lib.hid hb3; clear hb3; have row3 := roww2.mod hm3 (by simp)) | (refine wpList_load_at rfl 45 (.tmp 7) rfl _ Try.underlying45 rfl 23 info45 wr.heap.size (0) (p.1.cells p.2) rfl row3 (by rw [Ck.cells_len, HDd.out]) ?_) | (refine wpList_store_at rfl 45 (.tmp 33) (.tmp 32) rfl 23 info45 b (i * 23) 45 _ (p.1.cells p.2) rfl rfl HB3.out.2 (by rw [Ck.cells_len, HDd.out]) (oneCell_ck HP1.out) (by rw [HB3.out.len, HDl.out, HRl.out, Ck.cells_len, HDd.out]; omega) ?_; intro w4 hh4 hm4; have HH4 := Lib.hid hh4; clear hh4))
      go_roundw
      case rel =>
        refine ⟨i + 1 + 1, by omega, by omega, by go_num, int_eq (by omega), ?_, ((hm.trans_nil hmw2).trans_nil hm3).trans hm4 (by simp)⟩
        show Blk _ _ _ _ _
        rw [HS.out]
        exact HB3.out.setRow (by rw [HDl.out, HRl.out]; omega) (by rw [Ck.cells_len, HDd.out]) HH4.out
      case measure => simp [intOf]; omega
    · obtain rfl : j = n := by omega
      have hdl := delRows_len R (cs.map fun p => p.1.cells p.2) k j j HEl.out hrn hkn
      have HDl := Lib.hid hdl
      clear hdl
      obtain ⟨i, rfl⟩ : ∃ i, j = i + 1 := ⟨j - 1, by omega⟩
      rw [Nat.add_sub_cancel] at *
      have hcap1 : ¬ cap = i := by omega
      have hi1 : i + 1 - i = 1 := by omega
      go_wp2_with (refine wpList_clear_blk sty_ck zrow_ck (oneCell_ck (c := zeroCk) (rv := nilV) rfl) rfl (.tmp 38) rfl b i _ _ rfl (by omega) _ hbr.out (by rw [HDl.out, HRl.out]; omega) ?_; intro w4 hb4 hm4; have HB4 := Lib.hid hb4; clear hb4)
      go_ret
      have hfin := delRows_end R (cs.map fun p => p.1.cells p.2) k (i + 1) (List.replicate 1 zeroCells) HEl.out HRt.out hrn hkn
      rw [Nat.add_sub_cancel] at hfin
      have hl4 : (splice (delRows R (cs.map fun p => p.1.cells p.2) k (i + 1)) i (List.replicate 1 zeroCells)).length = cap := by
        rw [length_splice _ _ _ (by rw [HDl.out, HRl.out]; simp; omega), HDl.out, HRl.out]
      have hown := HB4.out.own i (by rw [hl4]; omega) (by rw [hl4]; exact hcm) _ hfin
      rw [hl4] at hown
      exact ⟨rfl, hown, hm.trans hm4 (by simp)⟩

end Go.Proofs.Ytknkifanpppglaa
