/- Walks: sort.Search with Add's closure. -/
import Derived.Test.YtknkifanpppglaaW19
namespace Go.Proofs.Ytknkifanpppglaa
open Go.RowKit

theorem slotFrom_le : ∀ (l : List Ck) (k : Nat), k ≤ slotFrom l k ∧ slotFrom l k ≤ k + l.length
  | [], k => by simp [slotFrom]
  | c :: r, k => by
    unfold slotFrom
    split
    · have := slotFrom_le r (k + 1); simp; omega
    · simp
theorem slot_le (l : List Ck) : slot l ≤ l.length := by have := (slotFrom_le l 0).2; unfold slot; omega

theorem slotFrom_lt : ∀ (l : List Ck) (k j : Nat) (c : Ck), k + j < slotFrom l k → l[j]? = some c → c.id = ((k + j : Nat) : Int) + 1
  | [], k, j, c, h, hc => by simp at hc
  | c0 :: r, k, 0, c, h, hc => by
    unfold slotFrom at h
    split at h
    · simp at hc; subst hc; simpa using by assumption
    · omega
  | c0 :: r, k, j + 1, c, h, hc => by
    unfold slotFrom at h
    split at h
    · have := slotFrom_lt r (k + 1) j c (by omega) (by simpa using hc)
      rw [this]; congr 1; omega
    · omega
theorem slot_lt {l : List Ck} {j : Nat} {c : Ck} (h : j < slot l) (hc : l[j]? = some c) : c.id = (j : Int) + 1 := by
  have := slotFrom_lt l 0 j c (by unfold slot at h; omega) hc
  simpa using this

theorem slotFrom_at : ∀ (l : List Ck) (k : Nat) (c : Ck), l[slotFrom l k - k]? = some c → c.id ≠ (slotFrom l k : Int) + 1
  | [], k, c, h => by simp at h
  | c0 :: r, k, c, h => by
    unfold slotFrom at h ⊢
    split
    · rename_i he
      rw [if_pos he] at h
      have := (slotFrom_le r (k + 1)).1
      have e : slotFrom r (k + 1) - k = (slotFrom r (k + 1) - (k + 1)) + 1 := by omega
      rw [e] at h
      exact slotFrom_at r (k + 1) c (by simpa using h)
    · rename_i he
      rw [if_neg he] at h
      simp at h; subst h; exact he
theorem slot_at {l : List Ck} (h : Inv l) {c : Ck} (hc : l[slot l]? = some c) : (slot l : Int) + 1 < c.id := by
  have h1 := slotFrom_at l 0 c (by simpa [slot] using hc)
  have h2 := ids_ge h _ _ hc
  unfold slot at *
  omega
theorem slot_ge {l : List Ck} (h : Inv l) {j : Nat} {c : Ck} (hj : slot l ≤ j) (hc : l[j]? = some c) : (j : Int) + 1 < c.id := by
  induction j generalizing c with
  | zero => exact slot_at h (by rw [show slot l = 0 by omega]; exact hc) |> fun x => by rw [show slot l = 0 by omega] at x; exact x
  | succ j ih =>
    by_cases he : slot l = j + 1
    · have := slot_at h (c := c) (by rw [he]; exact hc); rw [he] at this; exact this
    · have hlt : j < l.length := by have := (List.getElem?_eq_some_iff.1 hc).1; omega
      have h1 := ih (c := l[j]) (by omega) (List.getElem?_eq_getElem hlt)
      have h2 := ids_lt h (List.getElem?_eq_getElem hlt) hc (Nat.lt_succ_self j)
      omega

theorem add1_any (w : World) (bb tb b n cap i : Nat) (id : Int) (hbb : w.cell? ⟨bb, 0, none⟩ = some (.pointer (some ⟨tb, 0, none⟩))) (htb : w.cell? ⟨tb, 0, none⟩ = some (.slice (some ⟨b, 0, none⟩) n cap)) (hin : i < n) (hi : i ≤ 65536)
    (hid : w.cell? ⟨b, i * 23, none⟩ = some (.int .i64 id)) :
    Calls Try.prog 96 #[.int .i64 i, .pointer (some ⟨bb, 0, none⟩)] w fun e w' => e = .returned (.bool (decide ((i : Int) + 1 < id))) ∧ Mod [] w w' := by
  have hw : IntKind.i64.wrap ((i : Int) + 1) = (i : Int) + 1 := IntWalk.i64_in _ (by omega)
  go_enter Try.func96, Try.ntmps96
  go_wp2
  go_ret
  exact ⟨rfl, Mod.refl _ _⟩

set_option maxHeartbeats 1000000 in
theorem search_any (w : World) (bb tb b cap n : Nat) (cs : List (Ck × Value)) (hn : n = cs.length) (hlen : n ≤ 65536) (hrow : ∀ k p, cs[k]? = some p → Row w b (k * 23) (p.1.cells p.2)) (hI : Inv (cksOf cs))
    (hbb : w.cell? ⟨bb, 0, none⟩ = some (.pointer (some ⟨tb, 0, none⟩))) (htb : w.cell? ⟨tb, 0, none⟩ = some (.slice (some ⟨b, 0, none⟩) n cap)) :
    Calls Try.prog 95 #[.int .i64 n, .func (.func 96) #[] #[.pointer (some ⟨bb, 0, none⟩)]] w fun e w' => e = .returned (.int .i64 (slot (cksOf cs))) ∧ Mod [] w w' := by
  have hk : slot (cksOf cs) ≤ n := by have := slot_le (cksOf cs); rw [cksOf_len] at this; omega
  obtain ⟨k, hks⟩ : ∃ k, k = slot (cksOf cs) := ⟨_, rfl⟩
  have hlo : ∀ (j : Nat) p, j < k → cs[j]? = some p → p.1.id = (j : Int) + 1 := fun j p hj hp => slot_lt (by omega) (cksOf_get hp)
  have hhi : ∀ (j : Nat) p, k ≤ j → cs[j]? = some p → (j : Int) + 1 < p.1.id := fun j p hj hp => slot_ge hI (by omega) (cksOf_get hp)
  rw [← hks] at hk ⊢
  have HN := Lib.hid hn
  have HR := Lib.hid hrow
  have HLo := Lib.hid hlo
  have HHi := Lib.hid hhi
  clear hn hrow hlo hhi hI hks
  go_enter Try.func95, Try.ntmps95
  go_wp2
  go_loopw [5, 6] (fun s5 s6 wr => ∃ lo hi : Nat, s5 = .int .i64 lo ∧ s6 = .int .i64 hi ∧ lo ≤ k ∧ k ≤ hi ∧ hi ≤ n ∧ Mod [] w wr) (fun s5 s6 _ => (intOf s6 - intOf s5).toNat)
  case atStart => exact ⟨0, n, rfl, rfl, Nat.zero_le _, hk, Nat.le_refl _, Mod.refl _ _⟩
  case round =>
    obtain ⟨lo, hi, rfl, rfl, h1, h2, h3, hm⟩ := hrel
    have hbb' := hm.cell hbb (by simp)
    have htb' := hm.cell htb (by simp)
    by_cases hlh : lo < hi
    · obtain ⟨p, hp⟩ : ∃ p, cs[(lo + hi) / 2]? = some p := ⟨_, List.getElem?_eq_getElem (by have := HN.out; omega)⟩
      have hc0 := ((HR.out _ p hp).mod hm (by simp)).at0 _ (Ck.c0 p.1 p.2)
      by_cases hc : (lo + hi) / 2 < k
      · have hd : decide ((((lo + hi) / 2 : Nat) : Int) + 1 < p.1.id) = false := by rw [HLo.out _ p hc hp]; simp
        have HD := Lib.hid hd
        clear hp hd
        go_wp2_with (first | (go_at_call 96; refine (add1_any _ bb tb b n cap ((lo + hi) / 2) p.1.id hbb' htb' (by omega) (by omega) hc0).mono ?_; rintro e w' ⟨rfl, hm1⟩; rw [HD.out]))
        go_roundw
        case rel => exact ⟨(lo + hi) / 2 + 1, hi, by go_num, rfl, by omega, h2, h3, hm.trans_nil hm1⟩
        case measure => simp [intOf]; omega
      · have hd : decide ((((lo + hi) / 2 : Nat) : Int) + 1 < p.1.id) = true := by have := HHi.out _ p (by omega) hp; simp; omega
        have HD := Lib.hid hd
        clear hp hd
        go_wp2_with (first | (go_at_call 96; refine (add1_any _ bb tb b n cap ((lo + hi) / 2) p.1.id hbb' htb' (by omega) (by omega) hc0).mono ?_; rintro e w' ⟨rfl, hm1⟩; rw [HD.out]))
        go_roundw
        case rel => exact ⟨lo, (lo + hi) / 2, rfl, by go_num, h1, by omega, by omega, hm.trans_nil hm1⟩
        case measure => simp [intOf]; omega
    · obtain rfl : lo = hi := by omega
      obtain rfl : lo = k := by omega
      go_wp2
      go_ret
      exact ⟨rfl, hm⟩

theorem search_nil (w : World) (bb : Nat) :
    Calls Try.prog 95 #[.int .i64 0, .func (.func 96) #[] #[.pointer (some ⟨bb, 0, none⟩)]] w fun e w' => e = .returned (.int .i64 0) ∧ Mod [] w w' := by
  go_enter Try.func95, Try.ntmps95
  go_wp2
  refine wp_loop_rounds 1 ?_
  rw [rounds_succ]
  go_wp2
  go_ret
  exact ⟨rfl, Mod.refl _ _⟩

end Go.Proofs.Ytknkifanpppglaa
