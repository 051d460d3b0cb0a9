/- Walks: Count; leave, Move, Lose; the writing of a chunk's cell. -/
import Derived.Test.YtknkifanpppglaaW5
namespace Go.Proofs.Ytknkifanpppglaa
open Go.RowKit

theorem count_snoc (l : List Ck) (t : Int) (k : Nat) (c : Ck) (h : l[k]? = some c) : countL (l.take (k + 1)) t = countL (l.take k) t + heldL c.refs t := by
  unfold countL
  rw [take_snoc' h, List.map_append, List.sum_append_int]
  simp

theorem count_bounds {l : List Ck} (h : ∀ c ∈ l, CkOk c) (t : Int) : 0 ≤ countL l t ∧ countL l t ≤ l.length * 2147483647 := by
  induction l with
  | nil => simp [countL]
  | cons c l ih =>
    have h1 := ih (fun x hx => h x (by simp [hx]))
    have h2 := h c (by simp)
    have h3 := held_bounds (fun x hx => (h2.ref1 x hx).2.2) t
    have h4 := h2.tot
    unfold most at h4
    have e : countL (c :: l) t = heldL c.refs t + countL l t := by simp [countL]
    rw [e, List.length_cons]
    push_cast
    omega

theorem count_take_bounds {l : List Ck} (h : ∀ c ∈ l, CkOk c) (hl : l.length ≤ 65536) (t : Int) (k : Nat) : 0 ≤ countL (l.take k) t ∧ countL (l.take k) t ≤ 140737488355328 := by
  have h1 := count_bounds (l := l.take k) (fun c hc => h c (List.mem_of_mem_take hc)) t
  have h2 := List.length_take_le k l
  have h3 : (l.take k).length ≤ l.length := by simp; omega
  omega

set_option maxHeartbeats 1000000 in
theorem count_any (w : World) (tb mb : Nat) (lv : Value) (l : List Ck) (t : Int) (h : Tab w tb mb lv l) :
    Calls Try.prog 27 #[.pointer (some ⟨tb, 0, none⟩), .int .i64 t] w fun e w' => e = .returned (.int .i64 (countL l t)) ∧ Mod [] w w' := by
  obtain ⟨c0, _, hl, hinv, hs⟩ := h.open
  have htb := Go.block_lt_of_cell c0
  have hcb := fun k => count_take_bounds hinv.each hl t k
  clear h
  rcases hs with ⟨rfl, rfl⟩ | ⟨b, cap, rfl, hc, hb, hr⟩
  · clear hcb hinv
    go_enter Try.func27, Try.ntmps27
    go_wp2
    refine wp_loop_rounds 1 ?_
    rw [rounds_succ]
    go_wp2
    go_ret
    exact ⟨rfl, Mod.refl _ _⟩
  · have HR := Lib.hid hr
    have HB := Lib.hid hcb
    clear hr hcb hinv
    go_enter Try.func27, Try.ntmps27
    go_wp2
    go_loopw [5, 13] (fun s5 s13 wr => ∃ k : Nat, k ≤ l.length ∧ s13 = .int .i64 k ∧ s5 = .int .i64 (countL (l.take k) t) ∧ Mod [] w wr) (fun _ s13 _ => l.length - (intOf s13).toNat)
    case atStart => exact ⟨0, Nat.zero_le _, rfl, rfl, Mod.refl _ _⟩
    case round =>
      obtain ⟨k, hk, rfl, rfl, hm⟩ := hrel
      by_cases hlt : k < l.length
      · obtain ⟨c, hx⟩ : ∃ c, l[k]? = some c := ⟨_, List.getElem?_eq_getElem hlt⟩
        obtain ⟨rv, hrw, hrf, hd, hok⟩ := HR.out k c hx
        have hrw1 := hrw.mod hm (by simp)
        have hrf1 := hrf.one
        have hrfm := hrf.mod0 hm
        have hsn := count_snoc l t k c hx
        have b1 := HB.out k
        have b2 := HB.out (k + 1)
        rw [hsn] at b2
        have hrl := hok.len
        have hri := hok.refs
        have hhb := held_bounds (fun x hx => (hok.ref1 x hx).2.2) t
        have hht := hok.tot
        unfold most at hht
        have HRF := Lib.hid hrf1
        have HRM := Lib.hid hrfm
        have HD := Lib.hid hd
        have HS := Lib.hid hsn
        have HRI := Lib.hid hri
        clear hx hrw hrf hrf1 hd hsn hrfm hri hok
        go_wp2_with (first | (refine wpList_load_at rfl 45 (.tmp 15) rfl _ Try.underlying45 rfl 23 info45 b (k * 23) (c.cells rv) rfl hrw1 (by rw [Ck.cells_len, HD.out]) ?_) | (refine wpList_store_at rfl 45 (.tmp 7) (.tmp 16) rfl 23 info45 wr.heap.size 0 45 zeroCells (c.cells rv) rfl rfl (heap_alloc_at _ _) (by rw [Ck.cells_len, HD.out]) (oneCell_ck HRF.out) (by simp [zeroCells, Ck.cells_len, HD.out]) ?_; intro w2 hhw2 hsw2; have hmw2 := ((Mod.refl [] wr).alloc (.cells zeroCells.toArray 45)).trans hsw2 (by simp); rw [splice_all _ _ (by simp [zeroCells, Ck.cells_len, HD.out])] at hhw2; have roww2 := Row.of_heap hhw2; have HHw2 := Lib.hid hhw2; clear hhw2; have c22 : w2.cell? ⟨wr.heap.size, 22, none⟩ = some rv := (roww2 22 _ (Ck.c22 HD.out rv))) | (go_at_call 63; refine (held_any w2 rv c.refs t (HRM.out.mod0 hmw2) HRI.out (by omega)).mono ?_; rintro e w3 ⟨rfl, hm3⟩))
        go_roundw
        case rel => exact ⟨k + 1, by omega, by go_num, by rw [HS.out], (hm.trans_nil hmw2).trans_nil hm3⟩
        case measure => simp [intOf]; omega
      · go_wp2
        go_ret
        exact ⟨ret_int (by rw [List.take_of_length_le (by omega)]), hm⟩

end Go.Proofs.Ytknkifanpppglaa
