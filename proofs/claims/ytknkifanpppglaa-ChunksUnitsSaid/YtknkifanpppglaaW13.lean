/- Walks: slices.Grow of nil, slices.Concat of two, with. -/
import Derived.Test.YtknkifanpppglaaW12
namespace Go.Proofs.Ytknkifanpppglaa
open Go.RowKit

set_option maxRecDepth 100000 in
set_option maxHeartbeats 1000000 in
theorem growR_any (w : World) (n : Nat) (hn : n ≤ 100000) :
    Calls Try.prog 141 #[.slice none 0 0, .int .i64 n] w (InsPost 113 2 [] w) := by
  by_cases h0 : n = 0
  · subst h0
    go_enter Try.func141, Try.ntmps141
    go_wp2
    go_ret
    exact ⟨_, rfl, Own.nil _ _ _, Mod.refl _ _, FreshN.nil _⟩
  · go_enter Try.func141, Try.ntmps141
    go_wp2_with (refine wpList_append_zeros (zrow := [.int .i64 0, .int .i64 0]) sty_ref Try.underlying3 zrow_ref rfl (.tmp 20) (.tmp 21) rfl (.slice none 0 0) none 0 0 n rfl rfl rfl [] rfl (Src.nil _ _ _) n (by omega) (by omega) (by omega) (by omega) (by simp [maxLen]; omega) ?_; intro w1 k hblk hm hmax; have HB := Lib.hid hblk; clear hblk)
    go_ret
    have hb := HB.out
    have hl : (([] : List (List Value)) ++ List.replicate (n + k) [Value.int .i64 0, Value.int .i64 0]).length = n + k := by simp
    have hown := hb.own 0 (Nat.zero_le _) (by rw [hl]; exact hmax) [] rfl
    rw [hl] at hown
    exact ⟨_, rfl, hown, hm, fun g hg => by simp [Value.ownBlock] at hg; omega⟩

set_option maxRecDepth 100000 in
set_option maxHeartbeats 2000000 in
theorem concatR_any (w : World) (sb : Nat) (a1 a2 : Option Addr) (n1 c1 n2 c2 : Nat) (es1 es2 : List (List Value)) (h1 : w.cell? ⟨sb, 0, none⟩ = some (.slice a1 n1 c1)) (h2 : w.cell? ⟨sb, 1, none⟩ = some (.slice a2 n2 c2))
    (s1 : Src w 2 (.slice a1 n1 c1) es1) (s2 : Src w 2 (.slice a2 n2 c2) es2) (l1 : n1 = es1.length) (l2 : n2 = es2.length) (hb1 : n1 ≤ 10000) (hb2 : n2 ≤ 10000)
    (o1 : ∀ r ∈ es1, ∀ u ∈ r, u.oneCell' = true) (o2 : ∀ r ∈ es2, ∀ u ∈ r, u.oneCell' = true) :
    Calls Try.prog 127 #[.slice (some ⟨sb, 0, none⟩) 2 2] w (InsPost 113 2 (es1 ++ es2) w) := by
  have S1 := Lib.hid s1
  have S2 := Lib.hid s2
  have L1 := Lib.hid l1
  have L2 := Lib.hid l2
  have O1 := Lib.hid o1
  have O2 := Lib.hid o2
  have hlt := Go.block_lt_of_cell h1
  clear s1 s2 l1 l2 o1 o2
  go_enter Try.func127, Try.ntmps127
  go_wp2
  refine wp_loop_rounds 3 ?_
  rw [rounds_succ]
  go_wp2
  rw [rounds_succ]
  go_wp2
  rw [rounds_succ]
  go_wp2_with fail
  have hc : ((n1 : Int) + n2) = ((n1 + n2 : Nat) : Int) := by omega
  rw [hc]
  refine (growR_any w (n1 + n2) (by omega)).mono ?_
  rintro e w1 ⟨g, rfl, hg, hm1, hf1⟩
  have d1 := hm1.cell h1 (by simp)
  have d2 := hm1.cell h2 (by simp)
  have HG := Lib.hid hg
  clear hg hc
  have hsz : w.heap.size ≤ w1.heap.size := hm1.size
  go_wp2
  refine wp_loop_rounds 3 ?_
  rw [rounds_succ]
  go_wp2_with (at_builtin; refine wpList_append_Own sty_ref rfl (.tmp 31) (.tmp 32) rfl g (.slice a1 n1 c1) rfl rfl [] es1 HG.out (S1.out.mod hm1 (by simp)) O1.out (by have := L1.out; simp [maxLen]; omega) (by have := L1.out; simp; omega) ?_; intro g2 w2 hg2 hm2 hf2)
  have hm12 : Mod [] w w2 := hm1.fresh hf1 hm2
  have d2' := hm2.cell d2 (hf1.notin hlt)
  have hf2' : FreshN w.heap.size g2 := FreshN.or hf1 hf2 hsz
  have HG2 := Lib.hid hg2
  clear hg2
  rw [rounds_succ]
  go_wp2_with (at_builtin; refine wpList_append_Own sty_ref rfl (.tmp 31) (.tmp 32) rfl g2 (.slice a2 n2 c2) rfl rfl ([] ++ es1) es2 HG2.out (S2.out.mod hm12 (by simp)) O2.out (by have := L1.out; have := L2.out; simp [maxLen]; omega) (by have := L1.out; have := L2.out; simp; omega) ?_; intro g3 w3 hg3 hm3 hf3)
  have hm13 : Mod [] w w3 := hm12.fresh hf2' hm3
  have hf3' : FreshN w.heap.size g3 := FreshN.or hf2' hf3 hm12.size
  rw [List.nil_append] at hg3
  have HG3 := Lib.hid hg3
  clear hg3
  rw [rounds_succ]
  go_wp2
  go_ret
  exact ⟨g3, rfl, HG3.out, hm13, hf3'⟩

end Go.Proofs.Ytknkifanpppglaa
