/- The encoding of numbers and of tables as lists of bytes. Plain lists. -/
import Derived.Test.YtknkifanpppglaaOps
namespace Go.Proofs.Ytknkifanpppglaa

/-- how many bytes a number takes (at most k) -/
def blen (n : Int) : Nat → Nat
  | 0 => 0
  | k + 1 => if n / 256 ^ k > 0 then k + 1 else blen n k
/-- the first j of k bytes -/
def beB (n : Int) (k j : Nat) : List Int := (List.range j).map (fun t => n / 256 ^ (k - 1 - t) % 256)
def intB (n : Int) : List Int := (128 + (blen n 8 : Int)) :: beB n (blen n 8) (blen n 8)

theorem blen_le (n : Int) : ∀ k, blen n k ≤ k
  | 0 => Nat.le_refl _
  | k + 1 => by unfold blen; split; omega; have := blen_le n k; omega
theorem blen_of {n : Int} : ∀ {m k : Nat}, k ≤ m → (∀ j, k ≤ j → j < m → ¬ n / 256 ^ j > 0) → (k = 0 ∨ n / 256 ^ (k - 1) > 0) → blen n m = k
  | 0, k, hk, _, _ => by have : k = 0 := by omega
                         subst this; rfl
  | m + 1, k, hk, h, h2 => by
    unfold blen
    by_cases e : k = m + 1
    · subst e
      rcases h2 with h2 | h2
      · omega
      · rw [if_pos (by simpa using h2)]
    · rw [if_neg (h m (by omega) (by omega))]
      exact blen_of (by omega) (fun j h1 h3 => h j h1 (by omega)) h2
theorem beB_succ (n : Int) (k j : Nat) : beB n k (j + 1) = beB n k j ++ [n / 256 ^ (k - 1 - j) % 256] := by
  simp [beB, List.range_succ]
theorem beB_len (n : Int) (k j : Nat) : (beB n k j).length = j := by simp [beB]
theorem intB_len (n : Int) : (intB n).length ≤ 9 := by have := blen_le n 8; simp [intB, beB_len]; omega
theorem intB_ne (n : Int) : 1 ≤ (intB n).length := by simp [intB]

theorem beB_byte {n : Int} {k j : Nat} : ∀ x ∈ beB n k j, 0 ≤ x ∧ x < 256 := by
  intro x hx
  obtain ⟨t, _, rfl⟩ := List.mem_map.1 hx
  exact ⟨Int.emod_nonneg _ (by decide), Int.emod_lt_of_pos _ (by decide)⟩
theorem intB_byte {n : Int} : ∀ x ∈ intB n, 0 ≤ x ∧ x < 256 := by
  intro x hx
  rcases List.mem_cons.1 hx with rfl | hx
  · have := blen_le n 8; omega
  · exact beB_byte x hx

def refB (r : Int × Int) : List Int := intB r.1 ++ intB r.2
def posB (c : Ck) : List Int := if c.lost then intB 1 else intB 0 ++ (intB c.pos.row ++ (intB c.pos.group ++ intB c.pos.unit))
def ckB (c : Ck) : List Int := intB c.id ++ (c.dig ++ (intB c.print ++ (posB c ++ (intB c.refs.length ++ (c.refs.map refB).flatten))))
def encB (l : List Ck) : List Int := intB l.length ++ (l.map ckB).flatten

end Go.Proofs.Ytknkifanpppglaa
