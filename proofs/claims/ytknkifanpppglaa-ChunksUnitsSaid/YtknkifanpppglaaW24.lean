/- Walks: the reference's Same. -/
import Derived.Test.YtknkifanpppglaaW23
namespace Go.Proofs.Ytknkifanpppglaa
open Go.RowKit

def BoolPost (b : Bool) (w : World) (e : Ending) (w' : World) : Prop := e = .returned (.bool b) ∧ Mod [] w w'

theorem take_same {xs ys : List Int} {k : Nat} {x y : Int} (hx : xs[k]? = some x) (hy : ys[k]? = some y) (h : xs.take k = ys.take k) : xs.take (k + 1) = ys.take (k + 1) ↔ x = y := by
  rw [take_snoc' hx, take_snoc' hy, h]
  simp

set_option maxHeartbeats 1000000 in
theorem same_any (w : World) (v u : Value) (xs ys : List Int) (hv : Ints w v xs) (hu : Ints w u ys) :
    Calls Try.prog 21 #[v, u] w (BoolPost (decide (xs = ys)) w) := by
  obtain ⟨r, hr⟩ : ∃ r, decide (xs = ys) = r := ⟨_, rfl⟩
  have hs : ∃ a c, v = .slice a xs.length c := by rcases hv.shape with ⟨rfl, rfl⟩ | ⟨b, cap, rfl, _⟩ <;> exact ⟨_, _, rfl⟩
  have ht : ∃ a c, u = .slice a ys.length c := by rcases hu.shape with ⟨rfl, rfl⟩ | ⟨b, cap, rfl, _⟩ <;> exact ⟨_, _, rfl⟩
  obtain ⟨a, c, rfl⟩ := hs
  obtain ⟨a', c', rfl⟩ := ht
  have hxl : xs.length ≤ 9223372036854775807 := by
    rcases hv.shape with ⟨h1, rfl⟩ | ⟨b, cap, h1, _, h2, h3, _⟩
    · simp
    · unfold maxLen at h3; omega
  by_cases hlen : xs.length = ys.length
  · have hcx : ∀ k x, xs[k]? = some x → ∃ b, a = some ⟨b, 0, none⟩ ∧ w.cell? ⟨b, k, none⟩ = some (.int .i64 x) := by
      intro k x hx
      rcases hv.shape with ⟨h1, rfl⟩ | ⟨b, cap, h1, _, _, _, h2⟩
      · simp at hx
      · cases h1; exact ⟨b, rfl, h2 k x hx⟩
    have hcy : ∀ k x, ys[k]? = some x → ∃ b, a' = some ⟨b, 0, none⟩ ∧ w.cell? ⟨b, k, none⟩ = some (.int .i64 x) := by
      intro k x hx
      rcases hu.shape with ⟨h1, rfl⟩ | ⟨b, cap, h1, _, _, _, h2⟩
      · simp at hx
      · cases h1; exact ⟨b, rfl, h2 k x hx⟩
    rw [hr]
    obtain ⟨n, hn⟩ : ∃ n, xs.length = n := ⟨_, rfl⟩
    rw [← hlen, hn]
    rw [hn] at hxl
    have HN := Lib.hid hn
    have HL := Lib.hid hlen
    have HR := Lib.hid hr
    have HX := Lib.hid hcx
    have HY := Lib.hid hcy
    clear hn hlen hr hcx hcy hv hu
    go_enter Try.func21, Try.ntmps21
    go_wp2
    go_loopw [5] (fun s5 wr => ∃ k : Nat, k ≤ n ∧ s5 = .int .i64 k ∧ Hid (xs.take k = ys.take k) ∧ Mod [] w wr) (fun s5 _ => n - (intOf s5).toNat)
    case atStart => exact ⟨0, by omega, rfl, Lib.hid (by simp), Mod.refl _ _⟩
    case round =>
      obtain ⟨k, hk, rfl, HT, hm⟩ := hrel
      by_cases hlt : k < n
      · obtain ⟨x, hx⟩ : ∃ x, xs[k]? = some x := ⟨_, List.getElem?_eq_getElem (by have := HN.out; omega)⟩
        obtain ⟨y, hy⟩ : ∃ y, ys[k]? = some y := ⟨_, List.getElem?_eq_getElem (by have := HN.out; have := HL.out; omega)⟩
        obtain ⟨b, rfl, cx⟩ := HX.out k x hx
        obtain ⟨b', rfl, cy⟩ := HY.out k y hy
        have cx' := hm.cell cx (by simp)
        have cy' := hm.cell cy (by simp)
        have hts := take_same hx hy HT.out
        have HS := Lib.hid hts
        have hxy : decide (xs = ys) = true → x = y := by
          intro h
          have e : xs = ys := of_decide_eq_true h
          rw [e, hy] at hx; cases hx; rfl
        have HXY := Lib.hid hxy
        clear hx hy hts hxy cx cy
        have hi0 : (0 : Int) ≤ (k : Int) := by omega
        have hi1 : (k : Int) < (n : Int) := by omega
        by_cases he : x = y
        · subst he
          go_wp2
          go_quiet (fail)
          go_wp2
          go_roundw
          case rel => exact ⟨k + 1, by omega, by go_num, Lib.hid (HS.out.2 (by simp)), hm.drewN _⟩
          case measure => simp [intOf]; omega
        · have hne : (x != y) = true := by simpa using he
          have HE := Lib.hid he
          clear he
          go_wp2
          go_quiet (fail)
          go_wp2
          go_ret
          obtain rfl : r = false := by
            cases h : r with
            | false => rfl
            | true => exact absurd (HXY.out (HR.out.trans h)) HE.out
          exact ⟨rfl, hm.drewN _⟩
      · obtain rfl : k = n := by omega
        go_wp2
        go_ret
        have h1 := HT.out
        rw [List.take_of_length_le (by rw [HN.out]; omega), List.take_of_length_le (by rw [← HL.out, HN.out]; omega)] at h1
        obtain rfl : r = true := by rw [← HR.out]; simpa using h1
        exact ⟨rfl, hm⟩
  · have hf : decide (xs = ys) = false := by simpa using fun e => hlen (by rw [e])
    have HF := Lib.hid hf
    rw [hf]
    have hn1 : ((xs.length : Int) != (ys.length : Int)) = true := bne_iff_ne.2 (by omega)
    clear hv hu hf hr hlen
    go_enter Try.func21, Try.ntmps21
    go_wp2
    go_ret
    exact ⟨rfl, Mod.refl _ _⟩

end Go.Proofs.Ytknkifanpppglaa
