/- Walks: wire.Int. -/
import Derived.Test.YtknkifanpppglaaW26
import Derived.Test.YtknkifanpppglaaEnc
import Derived.Laws.BitsAllLaws
namespace Go.Proofs.Ytknkifanpppglaa
open Go.RowKit

def Bytes (w : World) (v : Value) (xs : List Int) : Prop := Own w 5 1 v (xs.map fun x => [Value.int .u8 x])
def BytesPost (xs : List Int) (w : World) (e : Ending) (w' : World) : Prop := ∃ v, e = .returned v ∧ Bytes w' v xs ∧ Mod [] w w' ∧ FreshN w.heap.size v

theorem infoBytes : (Try.prog.info? 70).map (·.size) = some 1 := by kernel_rfl

theorem sty_byte : STy Try.prog 70 5 1 1 := STy.mk' (z := .int .u8 0) Try.underlying70 (by kernel_rfl) rfl (by omega)

theorem Bytes.mod0 {w w' : World} (hm : Mod [] w w') {v : Value} {xs : List Int} (h : Bytes w v xs) : Bytes w' v xs := Own.mod hm h (by simp)

theorem xor0 {x : Int} (h0 : 0 ≤ x) (h1 : x < 256) : bits .xor .u8 x 0 = x := by
  rw [u8_xor x 0 h0 h1 (by decide) (by decide)]
  simp; omega

theorem Own.one1 {w : World} {E : Nat} {x : Value} : Own (w.alloc (.cells #[x] E)) E 1 (.slice (some ⟨w.heap.size, 0, none⟩) 1 1) [[x]] :=
  Own.lit w E 1 [[x]] (by simp) (by simp [maxLen]) [x] rfl

theorem pow_28 (n : Int) (i : Nat) : n / 2 ^ (8 * (i : Int)).toNat = n / 256 ^ i := by
  have : (8 * (i : Int)).toNat = 8 * i := by omega
  rw [this, Int.pow_mul]
  rfl

theorem pow_8m (n : Int) (i : Nat) : n / 2 ^ (8 * i) = n / 256 ^ i := by
  rw [Int.pow_mul]
  rfl

/-- the second loop, from its head on -/
def intRest (n : Int) (k : Nat) : List Int := (128 + (k : Int)) :: beB n k k

set_option maxHeartbeats 1000000 in
theorem wireInt_any (n : Int) (w : World) (h0 : 0 ≤ n) (h1 : n ≤ 9223372036854775807) :
    Calls Try.prog 70 #[.int .i64 n] w (BytesPost (intB n) w) := by
  obtain ⟨xs, hxs⟩ : ∃ xs, intB n = xs := ⟨_, rfl⟩
  rw [hxs]
  have HXS := Lib.hid hxs
  clear hxs
  go_enter Try.func70, Try.ntmps70
  go_wp2
  go_step3
  go_wp2
  go_step3
  go_wp2_with fail
  go_loopw [5] (fun s5 wr => ∃ k : Nat, k ≤ 8 ∧ s5 = .int .i64 k ∧ Hid (∀ j, k ≤ j → j < 8 → ¬ n / 256 ^ j > 0) ∧ w = wr) (fun s5 _ => (intOf s5).toNat)
  case atStart => exact ⟨8, by omega, rfl, Lib.hid (fun j h1 h2 => by omega), rfl⟩
  case round =>
    obtain ⟨k, hk, rfl, HK, rfl⟩ := hrel
    have hx0 : ∀ k : Nat, k ≤ 8 → bits .xor .u8 (128 + (k : Int)) 0 = 128 + (k : Int) := fun k hk => xor0 (by omega) (by omega)
    have hcase : k = 0 ∨ k = 1 ∨ k = 2 ∨ k = 3 ∨ k = 4 ∨ k = 5 ∨ k = 6 ∨ k = 7 ∨ k = 8 := by omega
    have HX0 := Lib.hid hx0
    clear hx0
    rcases hcase with rfl | rfl | rfl | rfl | rfl | rfl | rfl | rfl | rfl
    · have e : bits .xor .u8 128 0 = 128 := xor0 (x := 128) (by omega) (by omega)
      have hb := blen_of (n := n) (m := 8) (k := 0) (by omega) HK.out (.inl rfl)
      have HB := Lib.hid hb
      clear hb
      go_wp2_with fail
      go_loopw [6, 7] (fun s6 s7 wr => ∃ i j : Nat, j + i = 0 ∧ ((i = 0 ∧ s7 = .int .i64 (-1)) ∨ ∃ m : Nat, i = m + 1 ∧ s7 = .int .i64 m) ∧ Hid (Bytes wr s6 (128 :: beB n 0 j)) ∧ FreshN w.heap.size s6 ∧ Mod [] w wr) (fun _ s7 _ => (intOf s7 + 1).toNat)
      case atStart =>
        refine ⟨0, 0, by omega, .inl ⟨rfl, rfl⟩, ?_, by intro g hg; simp [Value.ownBlock] at hg; omega, (Mod.refl _ _).alloc _⟩
        exact Own.one1
      case round =>
        obtain ⟨i, j, hij, hs7, HB6, hfr, hm⟩ := hrel
        rcases hs7 with ⟨rfl, rfl⟩ | ⟨m, rfl, rfl⟩
        · obtain rfl : j = 0 := by omega
          go_wp2
          go_ret
          refine ⟨u6, rfl, ?_, hm, hfr⟩
          rw [← HXS.out, intB, HB.out]
          exact HB6.out
        · exfalso; omega
    · have e : bits .xor .u8 129 0 = 129 := xor0 (x := 129) (by omega) (by omega)
      by_cases hd : (0 : Int) < n
      · have hb := blen_of (n := n) (m := 8) (k := 1) (by omega) HK.out (.inr (by simpa using hd))
        have HB := Lib.hid hb
        clear hb
        go_wp2_with fail
        go_loopw [6, 7] (fun s6 s7 wr => ∃ i j : Nat, j + i = 1 ∧ ((i = 0 ∧ s7 = .int .i64 (-1)) ∨ ∃ m : Nat, i = m + 1 ∧ s7 = .int .i64 m) ∧ Hid (Bytes wr s6 (129 :: beB n 1 j)) ∧ FreshN w.heap.size s6 ∧ Mod [] w wr) (fun _ s7 _ => (intOf s7 + 1).toNat)
        case atStart =>
          refine ⟨1, 0, by omega, .inr ⟨0, rfl, rfl⟩, ?_, by intro g hg; simp [Value.ownBlock] at hg; omega, (Mod.refl _ _).alloc _⟩
          exact Own.one1
        case round =>
          obtain ⟨i, j, hij, hs7, HB6, hfr, hm⟩ := hrel
          rcases hs7 with ⟨rfl, rfl⟩ | ⟨m, rfl, rfl⟩
          · obtain rfl : j = 1 := by omega
            go_wp2
            go_ret
            refine ⟨u6, rfl, ?_, hm, hfr⟩
            rw [← HXS.out, intB, HB.out]
            exact HB6.out
          · skip
            have hm8 : m < 8 := by omega
            have hl := beB_len n 1 j
            go_wp2_with (at_builtin; refine wpList_append_Own sty_byte rfl (.tmp 36) (.tmp 44) rfl u6 (.slice (some ⟨wr.heap.size, 0, none⟩) 1 1) rfl rfl _ [_] (Bytes.mod0 ((Mod.refl [] wr).alloc _) HB6.out) (Src.one rfl (Row.of_heap (heap_alloc_at _ _))) (by simp [Value.oneCell']) (by simp [maxLen, hl]; omega) (by simp [hl]; omega) ?_; intro v' w3 hown' hm3 hfr'; clear hl)
            go_roundw
            case rel =>
              refine ⟨m, j + 1, by omega, ?_, ?_, hfr.or hfr' (by have := hm.size; simp; omega), (hm.alloc _).trans hm3 (fun x hx => .inr (hfr x (by simpa using hx)))⟩
              · rcases m with _ | q
                · exact .inl ⟨rfl, by simp⟩
                · exact .inr ⟨q, rfl, int_eq (by omega)⟩
              · show Bytes _ _ _
                rw [beB_succ]
                have e2 : 1 - 1 - j = m := by omega
                rw [e2]
                have e3 : bits .xor .u8 (n / 2 ^ (8 * m) % 256) 0 = n / 256 ^ m % 256 := by
                  rw [pow_8m]
                  exact xor0 (x := n / 256 ^ m % 256) (Int.emod_nonneg _ (by decide)) (Int.emod_lt_of_pos _ (by decide))
                simp only [e3] at hown'
                simpa [Bytes] using hown'
            case measure => (simp [intOf]; try omega)
      · have HD := Lib.hid hd
        go_wp2
        go_roundw
        case rel =>
          refine ⟨0, by omega, rfl, Lib.hid (fun j h1 h2 => ?_), by simp⟩
          by_cases ej : j = 0
          · subst ej; simpa using HD.out
          · exact HK.out j (by omega) h2
        case measure => simp [intOf]
    · have e : bits .xor .u8 130 0 = 130 := xor0 (x := 130) (by omega) (by omega)
      by_cases hd : (0 : Int) < n / 256
      · have hb := blen_of (n := n) (m := 8) (k := 2) (by omega) HK.out (.inr (by simpa using hd))
        have HB := Lib.hid hb
        clear hb
        go_wp2_with fail
        go_loopw [6, 7] (fun s6 s7 wr => ∃ i j : Nat, j + i = 2 ∧ ((i = 0 ∧ s7 = .int .i64 (-1)) ∨ ∃ m : Nat, i = m + 1 ∧ s7 = .int .i64 m) ∧ Hid (Bytes wr s6 (130 :: beB n 2 j)) ∧ FreshN w.heap.size s6 ∧ Mod [] w wr) (fun _ s7 _ => (intOf s7 + 1).toNat)
        case atStart =>
          refine ⟨2, 0, by omega, .inr ⟨1, rfl, rfl⟩, ?_, by intro g hg; simp [Value.ownBlock] at hg; omega, (Mod.refl _ _).alloc _⟩
          exact Own.one1
        case round =>
          obtain ⟨i, j, hij, hs7, HB6, hfr, hm⟩ := hrel
          rcases hs7 with ⟨rfl, rfl⟩ | ⟨m, rfl, rfl⟩
          · obtain rfl : j = 2 := by omega
            go_wp2
            go_ret
            refine ⟨u6, rfl, ?_, hm, hfr⟩
            rw [← HXS.out, intB, HB.out]
            exact HB6.out
          · skip
            have hm8 : m < 8 := by omega
            have hl := beB_len n 2 j
            go_wp2_with (at_builtin; refine wpList_append_Own sty_byte rfl (.tmp 36) (.tmp 44) rfl u6 (.slice (some ⟨wr.heap.size, 0, none⟩) 1 1) rfl rfl _ [_] (Bytes.mod0 ((Mod.refl [] wr).alloc _) HB6.out) (Src.one rfl (Row.of_heap (heap_alloc_at _ _))) (by simp [Value.oneCell']) (by simp [maxLen, hl]; omega) (by simp [hl]; omega) ?_; intro v' w3 hown' hm3 hfr'; clear hl)
            go_roundw
            case rel =>
              refine ⟨m, j + 1, by omega, ?_, ?_, hfr.or hfr' (by have := hm.size; simp; omega), (hm.alloc _).trans hm3 (fun x hx => .inr (hfr x (by simpa using hx)))⟩
              · rcases m with _ | q
                · exact .inl ⟨rfl, by simp⟩
                · exact .inr ⟨q, rfl, int_eq (by omega)⟩
              · show Bytes _ _ _
                rw [beB_succ]
                have e2 : 2 - 1 - j = m := by omega
                rw [e2]
                have e3 : bits .xor .u8 (n / 2 ^ (8 * m) % 256) 0 = n / 256 ^ m % 256 := by
                  rw [pow_8m]
                  exact xor0 (x := n / 256 ^ m % 256) (Int.emod_nonneg _ (by decide)) (Int.emod_lt_of_pos _ (by decide))
                simp only [e3] at hown'
                simpa [Bytes] using hown'
            case measure => (simp [intOf]; try omega)
      · have HD := Lib.hid hd
        go_wp2
        go_roundw
        case rel =>
          refine ⟨1, by omega, rfl, Lib.hid (fun j h1 h2 => ?_), by simp⟩
          by_cases ej : j = 1
          · subst ej; simpa using HD.out
          · exact HK.out j (by omega) h2
        case measure => simp [intOf]
    · have e : bits .xor .u8 131 0 = 131 := xor0 (x := 131) (by omega) (by omega)
      by_cases hd : (0 : Int) < n / 65536
      · have hb := blen_of (n := n) (m := 8) (k := 3) (by omega) HK.out (.inr (by simpa using hd))
        have HB := Lib.hid hb
        clear hb
        go_wp2_with fail
        go_loopw [6, 7] (fun s6 s7 wr => ∃ i j : Nat, j + i = 3 ∧ ((i = 0 ∧ s7 = .int .i64 (-1)) ∨ ∃ m : Nat, i = m + 1 ∧ s7 = .int .i64 m) ∧ Hid (Bytes wr s6 (131 :: beB n 3 j)) ∧ FreshN w.heap.size s6 ∧ Mod [] w wr) (fun _ s7 _ => (intOf s7 + 1).toNat)
        case atStart =>
          refine ⟨3, 0, by omega, .inr ⟨2, rfl, rfl⟩, ?_, by intro g hg; simp [Value.ownBlock] at hg; omega, (Mod.refl _ _).alloc _⟩
          exact Own.one1
        case round =>
          obtain ⟨i, j, hij, hs7, HB6, hfr, hm⟩ := hrel
          rcases hs7 with ⟨rfl, rfl⟩ | ⟨m, rfl, rfl⟩
          · obtain rfl : j = 3 := by omega
            go_wp2
            go_ret
            refine ⟨u6, rfl, ?_, hm, hfr⟩
            rw [← HXS.out, intB, HB.out]
            exact HB6.out
          · skip
            have hm8 : m < 8 := by omega
            have hl := beB_len n 3 j
            go_wp2_with (at_builtin; refine wpList_append_Own sty_byte rfl (.tmp 36) (.tmp 44) rfl u6 (.slice (some ⟨wr.heap.size, 0, none⟩) 1 1) rfl rfl _ [_] (Bytes.mod0 ((Mod.refl [] wr).alloc _) HB6.out) (Src.one rfl (Row.of_heap (heap_alloc_at _ _))) (by simp [Value.oneCell']) (by simp [maxLen, hl]; omega) (by simp [hl]; omega) ?_; intro v' w3 hown' hm3 hfr'; clear hl)
            go_roundw
            case rel =>
              refine ⟨m, j + 1, by omega, ?_, ?_, hfr.or hfr' (by have := hm.size; simp; omega), (hm.alloc _).trans hm3 (fun x hx => .inr (hfr x (by simpa using hx)))⟩
              · rcases m with _ | q
                · exact .inl ⟨rfl, by simp⟩
                · exact .inr ⟨q, rfl, int_eq (by omega)⟩
              · show Bytes _ _ _
                rw [beB_succ]
                have e2 : 3 - 1 - j = m := by omega
                rw [e2]
                have e3 : bits .xor .u8 (n / 2 ^ (8 * m) % 256) 0 = n / 256 ^ m % 256 := by
                  rw [pow_8m]
                  exact xor0 (x := n / 256 ^ m % 256) (Int.emod_nonneg _ (by decide)) (Int.emod_lt_of_pos _ (by decide))
                simp only [e3] at hown'
                simpa [Bytes] using hown'
            case measure => (simp [intOf]; try omega)
      · have HD := Lib.hid hd
        go_wp2
        go_roundw
        case rel =>
          refine ⟨2, by omega, rfl, Lib.hid (fun j h1 h2 => ?_), by simp⟩
          by_cases ej : j = 2
          · subst ej; simpa using HD.out
          · exact HK.out j (by omega) h2
        case measure => simp [intOf]
    · have e : bits .xor .u8 132 0 = 132 := xor0 (x := 132) (by omega) (by omega)
      by_cases hd : (0 : Int) < n / 16777216
      · have hb := blen_of (n := n) (m := 8) (k := 4) (by omega) HK.out (.inr (by simpa using hd))
        have HB := Lib.hid hb
        clear hb
        go_wp2_with fail
        go_loopw [6, 7] (fun s6 s7 wr => ∃ i j : Nat, j + i = 4 ∧ ((i = 0 ∧ s7 = .int .i64 (-1)) ∨ ∃ m : Nat, i = m + 1 ∧ s7 = .int .i64 m) ∧ Hid (Bytes wr s6 (132 :: beB n 4 j)) ∧ FreshN w.heap.size s6 ∧ Mod [] w wr) (fun _ s7 _ => (intOf s7 + 1).toNat)
        case atStart =>
          refine ⟨4, 0, by omega, .inr ⟨3, rfl, rfl⟩, ?_, by intro g hg; simp [Value.ownBlock] at hg; omega, (Mod.refl _ _).alloc _⟩
          exact Own.one1
        case round =>
          obtain ⟨i, j, hij, hs7, HB6, hfr, hm⟩ := hrel
          rcases hs7 with ⟨rfl, rfl⟩ | ⟨m, rfl, rfl⟩
          · obtain rfl : j = 4 := by omega
            go_wp2
            go_ret
            refine ⟨u6, rfl, ?_, hm, hfr⟩
            rw [← HXS.out, intB, HB.out]
            exact HB6.out
          · skip
            have hm8 : m < 8 := by omega
            have hl := beB_len n 4 j
            go_wp2_with (at_builtin; refine wpList_append_Own sty_byte rfl (.tmp 36) (.tmp 44) rfl u6 (.slice (some ⟨wr.heap.size, 0, none⟩) 1 1) rfl rfl _ [_] (Bytes.mod0 ((Mod.refl [] wr).alloc _) HB6.out) (Src.one rfl (Row.of_heap (heap_alloc_at _ _))) (by simp [Value.oneCell']) (by simp [maxLen, hl]; omega) (by simp [hl]; omega) ?_; intro v' w3 hown' hm3 hfr'; clear hl)
            go_roundw
            case rel =>
              refine ⟨m, j + 1, by omega, ?_, ?_, hfr.or hfr' (by have := hm.size; simp; omega), (hm.alloc _).trans hm3 (fun x hx => .inr (hfr x (by simpa using hx)))⟩
              · rcases m with _ | q
                · exact .inl ⟨rfl, by simp⟩
                · exact .inr ⟨q, rfl, int_eq (by omega)⟩
              · show Bytes _ _ _
                rw [beB_succ]
                have e2 : 4 - 1 - j = m := by omega
                rw [e2]
                have e3 : bits .xor .u8 (n / 2 ^ (8 * m) % 256) 0 = n / 256 ^ m % 256 := by
                  rw [pow_8m]
                  exact xor0 (x := n / 256 ^ m % 256) (Int.emod_nonneg _ (by decide)) (Int.emod_lt_of_pos _ (by decide))
                simp only [e3] at hown'
                simpa [Bytes] using hown'
            case measure => (simp [intOf]; try omega)
      · have HD := Lib.hid hd
        go_wp2
        go_roundw
        case rel =>
          refine ⟨3, by omega, rfl, Lib.hid (fun j h1 h2 => ?_), by simp⟩
          by_cases ej : j = 3
          · subst ej; simpa using HD.out
          · exact HK.out j (by omega) h2
        case measure => simp [intOf]
    · have e : bits .xor .u8 133 0 = 133 := xor0 (x := 133) (by omega) (by omega)
      by_cases hd : (0 : Int) < n / 4294967296
      · have hb := blen_of (n := n) (m := 8) (k := 5) (by omega) HK.out (.inr (by simpa using hd))
        have HB := Lib.hid hb
        clear hb
        go_wp2_with fail
        go_loopw [6, 7] (fun s6 s7 wr => ∃ i j : Nat, j + i = 5 ∧ ((i = 0 ∧ s7 = .int .i64 (-1)) ∨ ∃ m : Nat, i = m + 1 ∧ s7 = .int .i64 m) ∧ Hid (Bytes wr s6 (133 :: beB n 5 j)) ∧ FreshN w.heap.size s6 ∧ Mod [] w wr) (fun _ s7 _ => (intOf s7 + 1).toNat)
        case atStart =>
          refine ⟨5, 0, by omega, .inr ⟨4, rfl, rfl⟩, ?_, by intro g hg; simp [Value.ownBlock] at hg; omega, (Mod.refl _ _).alloc _⟩
          exact Own.one1
        case round =>
          obtain ⟨i, j, hij, hs7, HB6, hfr, hm⟩ := hrel
          rcases hs7 with ⟨rfl, rfl⟩ | ⟨m, rfl, rfl⟩
          · obtain rfl : j = 5 := by omega
            go_wp2
            go_ret
            refine ⟨u6, rfl, ?_, hm, hfr⟩
            rw [← HXS.out, intB, HB.out]
            exact HB6.out
          · skip
            have hm8 : m < 8 := by omega
            have hl := beB_len n 5 j
            go_wp2_with (at_builtin; refine wpList_append_Own sty_byte rfl (.tmp 36) (.tmp 44) rfl u6 (.slice (some ⟨wr.heap.size, 0, none⟩) 1 1) rfl rfl _ [_] (Bytes.mod0 ((Mod.refl [] wr).alloc _) HB6.out) (Src.one rfl (Row.of_heap (heap_alloc_at _ _))) (by simp [Value.oneCell']) (by simp [maxLen, hl]; omega) (by simp [hl]; omega) ?_; intro v' w3 hown' hm3 hfr'; clear hl)
            go_roundw
            case rel =>
              refine ⟨m, j + 1, by omega, ?_, ?_, hfr.or hfr' (by have := hm.size; simp; omega), (hm.alloc _).trans hm3 (fun x hx => .inr (hfr x (by simpa using hx)))⟩
              · rcases m with _ | q
                · exact .inl ⟨rfl, by simp⟩
                · exact .inr ⟨q, rfl, int_eq (by omega)⟩
              · show Bytes _ _ _
                rw [beB_succ]
                have e2 : 5 - 1 - j = m := by omega
                rw [e2]
                have e3 : bits .xor .u8 (n / 2 ^ (8 * m) % 256) 0 = n / 256 ^ m % 256 := by
                  rw [pow_8m]
                  exact xor0 (x := n / 256 ^ m % 256) (Int.emod_nonneg _ (by decide)) (Int.emod_lt_of_pos _ (by decide))
                simp only [e3] at hown'
                simpa [Bytes] using hown'
            case measure => (simp [intOf]; try omega)
      · have HD := Lib.hid hd
        go_wp2
        go_roundw
        case rel =>
          refine ⟨4, by omega, rfl, Lib.hid (fun j h1 h2 => ?_), by simp⟩
          by_cases ej : j = 4
          · subst ej; simpa using HD.out
          · exact HK.out j (by omega) h2
        case measure => simp [intOf]
    · have e : bits .xor .u8 134 0 = 134 := xor0 (x := 134) (by omega) (by omega)
      by_cases hd : (0 : Int) < n / 1099511627776
      · have hb := blen_of (n := n) (m := 8) (k := 6) (by omega) HK.out (.inr (by simpa using hd))
        have HB := Lib.hid hb
        clear hb
        go_wp2_with fail
        go_loopw [6, 7] (fun s6 s7 wr => ∃ i j : Nat, j + i = 6 ∧ ((i = 0 ∧ s7 = .int .i64 (-1)) ∨ ∃ m : Nat, i = m + 1 ∧ s7 = .int .i64 m) ∧ Hid (Bytes wr s6 (134 :: beB n 6 j)) ∧ FreshN w.heap.size s6 ∧ Mod [] w wr) (fun _ s7 _ => (intOf s7 + 1).toNat)
        case atStart =>
          refine ⟨6, 0, by omega, .inr ⟨5, rfl, rfl⟩, ?_, by intro g hg; simp [Value.ownBlock] at hg; omega, (Mod.refl _ _).alloc _⟩
          exact Own.one1
        case round =>
          obtain ⟨i, j, hij, hs7, HB6, hfr, hm⟩ := hrel
          rcases hs7 with ⟨rfl, rfl⟩ | ⟨m, rfl, rfl⟩
          · obtain rfl : j = 6 := by omega
            go_wp2
            go_ret
            refine ⟨u6, rfl, ?_, hm, hfr⟩
            rw [← HXS.out, intB, HB.out]
            exact HB6.out
          · skip
            have hm8 : m < 8 := by omega
            have hl := beB_len n 6 j
            go_wp2_with (at_builtin; refine wpList_append_Own sty_byte rfl (.tmp 36) (.tmp 44) rfl u6 (.slice (some ⟨wr.heap.size, 0, none⟩) 1 1) rfl rfl _ [_] (Bytes.mod0 ((Mod.refl [] wr).alloc _) HB6.out) (Src.one rfl (Row.of_heap (heap_alloc_at _ _))) (by simp [Value.oneCell']) (by simp [maxLen, hl]; omega) (by simp [hl]; omega) ?_; intro v' w3 hown' hm3 hfr'; clear hl)
            go_roundw
            case rel =>
              refine ⟨m, j + 1, by omega, ?_, ?_, hfr.or hfr' (by have := hm.size; simp; omega), (hm.alloc _).trans hm3 (fun x hx => .inr (hfr x (by simpa using hx)))⟩
              · rcases m with _ | q
                · exact .inl ⟨rfl, by simp⟩
                · exact .inr ⟨q, rfl, int_eq (by omega)⟩
              · show Bytes _ _ _
                rw [beB_succ]
                have e2 : 6 - 1 - j = m := by omega
                rw [e2]
                have e3 : bits .xor .u8 (n / 2 ^ (8 * m) % 256) 0 = n / 256 ^ m % 256 := by
                  rw [pow_8m]
                  exact xor0 (x := n / 256 ^ m % 256) (Int.emod_nonneg _ (by decide)) (Int.emod_lt_of_pos _ (by decide))
                simp only [e3] at hown'
                simpa [Bytes] using hown'
            case measure => (simp [intOf]; try omega)
      · have HD := Lib.hid hd
        go_wp2
        go_roundw
        case rel =>
          refine ⟨5, by omega, rfl, Lib.hid (fun j h1 h2 => ?_), by simp⟩
          by_cases ej : j = 5
          · subst ej; simpa using HD.out
          · exact HK.out j (by omega) h2
        case measure => simp [intOf]
    · have e : bits .xor .u8 135 0 = 135 := xor0 (x := 135) (by omega) (by omega)
      by_cases hd : (0 : Int) < n / 281474976710656
      · have hb := blen_of (n := n) (m := 8) (k := 7) (by omega) HK.out (.inr (by simpa using hd))
        have HB := Lib.hid hb
        clear hb
        go_wp2_with fail
        go_loopw [6, 7] (fun s6 s7 wr => ∃ i j : Nat, j + i = 7 ∧ ((i = 0 ∧ s7 = .int .i64 (-1)) ∨ ∃ m : Nat, i = m + 1 ∧ s7 = .int .i64 m) ∧ Hid (Bytes wr s6 (135 :: beB n 7 j)) ∧ FreshN w.heap.size s6 ∧ Mod [] w wr) (fun _ s7 _ => (intOf s7 + 1).toNat)
        case atStart =>
          refine ⟨7, 0, by omega, .inr ⟨6, rfl, rfl⟩, ?_, by intro g hg; simp [Value.ownBlock] at hg; omega, (Mod.refl _ _).alloc _⟩
          exact Own.one1
        case round =>
          obtain ⟨i, j, hij, hs7, HB6, hfr, hm⟩ := hrel
          rcases hs7 with ⟨rfl, rfl⟩ | ⟨m, rfl, rfl⟩
          · obtain rfl : j = 7 := by omega
            go_wp2
            go_ret
            refine ⟨u6, rfl, ?_, hm, hfr⟩
            rw [← HXS.out, intB, HB.out]
            exact HB6.out
          · skip
            have hm8 : m < 8 := by omega
            have hl := beB_len n 7 j
            go_wp2_with (at_builtin; refine wpList_append_Own sty_byte rfl (.tmp 36) (.tmp 44) rfl u6 (.slice (some ⟨wr.heap.size, 0, none⟩) 1 1) rfl rfl _ [_] (Bytes.mod0 ((Mod.refl [] wr).alloc _) HB6.out) (Src.one rfl (Row.of_heap (heap_alloc_at _ _))) (by simp [Value.oneCell']) (by simp [maxLen, hl]; omega) (by simp [hl]; omega) ?_; intro v' w3 hown' hm3 hfr'; clear hl)
            go_roundw
            case rel =>
              refine ⟨m, j + 1, by omega, ?_, ?_, hfr.or hfr' (by have := hm.size; simp; omega), (hm.alloc _).trans hm3 (fun x hx => .inr (hfr x (by simpa using hx)))⟩
              · rcases m with _ | q
                · exact .inl ⟨rfl, by simp⟩
                · exact .inr ⟨q, rfl, int_eq (by omega)⟩
              · show Bytes _ _ _
                rw [beB_succ]
                have e2 : 7 - 1 - j = m := by omega
                rw [e2]
                have e3 : bits .xor .u8 (n / 2 ^ (8 * m) % 256) 0 = n / 256 ^ m % 256 := by
                  rw [pow_8m]
                  exact xor0 (x := n / 256 ^ m % 256) (Int.emod_nonneg _ (by decide)) (Int.emod_lt_of_pos _ (by decide))
                simp only [e3] at hown'
                simpa [Bytes] using hown'
            case measure => (simp [intOf]; try omega)
      · have HD := Lib.hid hd
        go_wp2
        go_roundw
        case rel =>
          refine ⟨6, by omega, rfl, Lib.hid (fun j h1 h2 => ?_), by simp⟩
          by_cases ej : j = 6
          · subst ej; simpa using HD.out
          · exact HK.out j (by omega) h2
        case measure => simp [intOf]
    · have e : bits .xor .u8 136 0 = 136 := xor0 (x := 136) (by omega) (by omega)
      by_cases hd : (0 : Int) < n / 72057594037927936
      · have hb := blen_of (n := n) (m := 8) (k := 8) (by omega) HK.out (.inr (by simpa using hd))
        have HB := Lib.hid hb
        clear hb
        go_wp2_with fail
        go_loopw [6, 7] (fun s6 s7 wr => ∃ i j : Nat, j + i = 8 ∧ ((i = 0 ∧ s7 = .int .i64 (-1)) ∨ ∃ m : Nat, i = m + 1 ∧ s7 = .int .i64 m) ∧ Hid (Bytes wr s6 (136 :: beB n 8 j)) ∧ FreshN w.heap.size s6 ∧ Mod [] w wr) (fun _ s7 _ => (intOf s7 + 1).toNat)
        case atStart =>
          refine ⟨8, 0, by omega, .inr ⟨7, rfl, rfl⟩, ?_, by intro g hg; simp [Value.ownBlock] at hg; omega, (Mod.refl _ _).alloc _⟩
          exact Own.one1
        case round =>
          obtain ⟨i, j, hij, hs7, HB6, hfr, hm⟩ := hrel
          rcases hs7 with ⟨rfl, rfl⟩ | ⟨m, rfl, rfl⟩
          · obtain rfl : j = 8 := by omega
            go_wp2
            go_ret
            refine ⟨u6, rfl, ?_, hm, hfr⟩
            rw [← HXS.out, intB, HB.out]
            exact HB6.out
          · skip
            have hm8 : m < 8 := by omega
            have hl := beB_len n 8 j
            go_wp2_with (at_builtin; refine wpList_append_Own sty_byte rfl (.tmp 36) (.tmp 44) rfl u6 (.slice (some ⟨wr.heap.size, 0, none⟩) 1 1) rfl rfl _ [_] (Bytes.mod0 ((Mod.refl [] wr).alloc _) HB6.out) (Src.one rfl (Row.of_heap (heap_alloc_at _ _))) (by simp [Value.oneCell']) (by simp [maxLen, hl]; omega) (by simp [hl]; omega) ?_; intro v' w3 hown' hm3 hfr'; clear hl)
            go_roundw
            case rel =>
              refine ⟨m, j + 1, by omega, ?_, ?_, hfr.or hfr' (by have := hm.size; simp; omega), (hm.alloc _).trans hm3 (fun x hx => .inr (hfr x (by simpa using hx)))⟩
              · rcases m with _ | q
                · exact .inl ⟨rfl, by simp⟩
                · exact .inr ⟨q, rfl, int_eq (by omega)⟩
              · show Bytes _ _ _
                rw [beB_succ]
                have e2 : 8 - 1 - j = m := by omega
                rw [e2]
                have e3 : bits .xor .u8 (n / 2 ^ (8 * m) % 256) 0 = n / 256 ^ m % 256 := by
                  rw [pow_8m]
                  exact xor0 (x := n / 256 ^ m % 256) (Int.emod_nonneg _ (by decide)) (Int.emod_lt_of_pos _ (by decide))
                simp only [e3] at hown'
                simpa [Bytes] using hown'
            case measure => (simp [intOf]; try omega)
      · have HD := Lib.hid hd
        go_wp2
        go_roundw
        case rel =>
          refine ⟨7, by omega, rfl, Lib.hid (fun j h1 h2 => ?_), by simp⟩
          by_cases ej : j = 7
          · subst ej; simpa using HD.out
          · exact HK.out j (by omega) h2
        case measure => simp [intOf]

end Go.Proofs.Ytknkifanpppglaa
