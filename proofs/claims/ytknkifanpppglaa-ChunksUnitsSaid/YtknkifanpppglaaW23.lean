/- Walks: New; the reference's Digest, Same. -/
import Derived.Test.YtknkifanpppglaaW22
namespace Go.Proofs.Ytknkifanpppglaa
open Go.RowKit

def NewPost (w : World) (e : Ending) (w' : World) : Prop := ∃ tb mb, e = .returned (.pointer (some ⟨tb, 0, none⟩)) ∧ Tab w' tb mb nilV [] ∧ Mod [] w w' ∧ w.heap.size ≤ tb ∧ w.heap.size ≤ mb

theorem inv_nil : Inv [] := ⟨List.Pairwise.nil, fun c hc => by simp at hc, List.Pairwise.nil⟩

theorem new_any (w : World) : Calls Try.prog 29 #[] w (NewPost w) := by
  have hmm := @run_makeMap Try.prog
  go_enter Try.func29, Try.ntmps29
  go_wp2
  go_ret
  have h0 := heap_alloc_at w (.map #[] 0)
  have h1 := heap_alloc_at (w.alloc (.map #[] 0)) (.cells #[nilV, .map (some w.heap.size)] 120)
  rw [alloc_size] at h1
  have hm : Mod [] (w.alloc (.map #[] 0)) ((w.alloc (.map #[] 0)).alloc (.cells #[nilV, .map (some w.heap.size)] 120)) := (Mod.refl _ _).alloc _
  refine ⟨w.heap.size + 1, w.heap.size, rfl, ⟨[], [], h1, ⟨Own.nil _ _ _, fun p hp => by simp at hp⟩, rfl, ⟨#[], 0, hm.heap h0 (by simp), rfl, List.Pairwise.nil⟩, fun u => rfl, inv_nil⟩, ((Mod.refl [] w).alloc _).trans_nil hm, by omega, by omega⟩

def DigPost (d : Int) (w : World) (e : Ending) (w' : World) : Prop := e = .returned (digV (digOf d)) ∧ Mod [] w w'

theorem zeroDig (w : World) : (zeroValue 42).run Try.prog w = .ok (digV (digOf 0)) w := by kernel_rfl

def digPart (d : Int) (k : Nat) : List Value := List.replicate k (.int .u8 d) ++ List.replicate (16 - k) (.int .u8 0)
theorem digPart_set (d : Int) (k : Nat) (h : k < 16) : (digPart d k).set k (.int .u8 d) = digPart d (k + 1) := by
  unfold digPart
  rw [List.set_append_right _ _ (by simp), List.length_replicate, Nat.sub_self, show 16 - k = (16 - (k + 1)) + 1 by omega, List.replicate_succ, List.set_cons_zero, List.replicate_succ']
  simp
theorem digPart_end (d : Int) : digPart d 16 = (digOf d).map (Value.int .u8) := by simp [digPart, digOf]
theorem digPart_len (d : Int) (k : Nat) (h : k ≤ 16) : (digPart d k).length = 16 := by simp [digPart]; omega

set_option maxHeartbeats 1000000 in
theorem digest_any (d : Int) (w : World) : Calls Try.prog 25 #[.int .u8 d] w (DigPost d w) := by
  go_enter Try.func25, Try.ntmps25
  go_wp2
  have h0 := heap_alloc_at w (.cells (digPart 0 16).toArray 42)
  have h1 := heap_alloc_at (w.alloc (.cells (digPart 0 16).toArray 42)) (.cells (digPart d 0).toArray 42)
  rw [alloc_size] at h1
  have hm : Mod [] (w.alloc (.cells (digPart 0 16).toArray 42)) ((w.alloc (.cells (digPart 0 16).toArray 42)).alloc (.cells (digPart d 0).toArray 42)) := (Mod.refl _ _).alloc _
  have HA := Lib.hid (hm.heap h0 (by simp))
  have HB := Lib.hid h1
  clear h0 h1 hm
  go_loopw [4] (fun s4 wr => ∃ k : Nat, k ≤ 16 ∧ s4 = .int .i64 k ∧ Hid (wr.heap[w.heap.size]? = some (.cells (digPart 0 16).toArray 42 (0, 0))) ∧ Hid (wr.heap[w.heap.size + 1]? = some (.cells (digPart d k).toArray 42 (0, 0))) ∧ Mod [] w wr) (fun s4 _ => 16 - (intOf s4).toNat)
  case atStart => exact ⟨0, by omega, rfl, HA, HB, ((Mod.refl _ _).alloc _).alloc _⟩
  case round =>
    obtain ⟨k, hk, rfl, H0, H1, hm⟩ := hrel
    have hl := digPart_len d k hk
    by_cases hlt : k < 16
    · go_wp2_with (refine wpList_store1 rfl 5 (.tmp 11) (.tmp 10) rfl info5 (w.heap.size + 1) k 42 (digPart d k) (.int .u8 d) rfl rfl H1.out rfl (by omega) ?_; intro w2 hh2 hm2; have HH2 := Lib.hid hh2; clear hh2)
      go_roundw
      case rel =>
        refine ⟨k + 1, by omega, by go_num, Lib.hid (hm2.heap H0.out (by simp)), ?_, hm.trans hm2 (by simp)⟩
        show _ = _
        rw [← digPart_set d k hlt]; exact HH2.out
      case measure => simp [intOf]; omega
    · obtain rfl : k = 16 := by omega
      have hr := Row.of_heap H1.out
      rw [digPart_end] at hr
      have hdl : ((digOf d).map (Value.int .u8)).length = 16 := by simp [digOf]
      go_wp2_with (first | (refine wpList_load_at rfl 42 (.tmp 3) rfl _ Try.underlying42 rfl 16 info42 (w.heap.size + 1) 0 ((digOf d).map (Value.int .u8)) rfl hr hdl ?_) | (refine wpList_store_at rfl 42 (.tmp 2) (.tmp 12) rfl 16 info42 w.heap.size 0 42 (digPart 0 16) ((digOf d).map (Value.int .u8)) rfl rfl H0.out hdl (by intro u hu; simp [digOf] at hu; subst hu; rfl) (by simp [digPart, digOf]) ?_; intro w2 hh2 hm2; have HH2 := Lib.hid hh2; clear hh2))
      have hr2 := Row.of_heap (cs := (digOf d).map (Value.int .u8)) (by rw [HH2.out, splice_all _ _ (by simp [digPart, digOf])])
      have hl2 := digLoad hr2 (by simp [digOf])
      exact bodyPost_ret (results_cell1 Try.results25 _ _ _ _ rfl hl2) rfl ⟨rfl, hm.trans hm2 (by simp)⟩

/-- a slice of numbers that can be read: nil, or a row of cells -/
theorem Ints.shape {w : World} {v : Value} {xs : List Int} (h : Ints w v xs) :
    (v = .slice none 0 0 ∧ xs = []) ∨ ∃ b cap, v = .slice (some ⟨b, 0, none⟩) xs.length cap ∧ b < w.heap.size ∧ xs.length ≤ cap ∧ cap ≤ maxLen ∧ ∀ k x, xs[k]? = some x → w.cell? ⟨b, k, none⟩ = some (.int .i64 x) := by
  have h1 : Own w 3 1 v (xs.map fun x => [Value.int .i64 x]) := h
  rcases Own.shape h1 with ⟨h2, h3⟩ | ⟨b, cap, cur, h2, h3, h4, h5, h6, h7, h8⟩
  · exact .inl ⟨h2, by simpa using h3⟩
  · rw [List.length_map] at h2 h4
    refine .inr ⟨b, cap, h2, h3, h4, h5, fun k x hx => ?_⟩
    rw [h2] at h1
    have := Own.row h1 k [Value.int .i64 x] (by simp [hx])
    have := this.at0 _ rfl
    simpa using this

end Go.Proofs.Ytknkifanpppglaa
