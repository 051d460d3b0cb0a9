/- Walks of the reference: Refer, Unrefer. -/
import Derived.Test.YtknkifanpppglaaMF
import Derived.Test.YtknkifanpppglaaMC
import Derived.Test.YtknkifanpppglaaMD
import Derived.Deep.RegionHeld3
namespace Go.Proofs.Ytknkifanpppglaa
open Go.RowKit

def BadWhy (t n : Int) : Prop := tenB t = false ∨ (tenB t = true ∧ n < 1) ∨ (tenB t = true ∧ 1 ≤ n ∧ 2147483647 < n)
theorem badWhy {t n : Int} (h : argsBad t n = true) : BadWhy t n := by
  unfold argsBad most at h
  unfold BadWhy
  cases ht : tenB t with
  | false => exact .inl rfl
  | true =>
    rw [ht] at h
    simp at h
    by_cases h1 : n < 1
    · exact .inr (.inl ⟨rfl, h1⟩)
    · exact .inr (.inr ⟨rfl, by omega, by omega⟩)

theorem list23 {cs : List Value} (h : cs.length = 23) : ∃ e0 e1 e2 e3 e4 e5 e6 e7 e8 e9 e10 e11 e12 e13 e14 e15 e16 e17 e18 e19 e20 e21 e22, cs = [e0, e1, e2, e3, e4, e5, e6, e7, e8, e9, e10, e11, e12, e13, e14, e15, e16, e17, e18, e19, e20, e21, e22] := by
  match cs, h with
  | [e0, e1, e2, e3, e4, e5, e6, e7, e8, e9, e10, e11, e12, e13, e14, e15, e16, e17, e18, e19, e20, e21, e22], _ => exact ⟨_, _, _, _, _, _, _, _, _, _, _, _, _, _, _, _, _, _, _, _, _, _, _, rfl⟩

theorem wp_load_at {P : Program} {o : Oper} {a : Act} {w : World} {K : Act → World → Prop} {Q : Exit → Act → World → Prop} (ty : TypeId) (x : Operand) (ho : o.op = .load ty x)
    (d : TypeDesc) (hu : P.underlying ty = some d) (hd : (match d with | .struct _ | .array _ _ => true | _ => false) = true) (n : Nat) (hi : (P.info? ty).map (·.size) = some n)
    (b off : Nat) (cs : List Value) (hx : a.eval x = .pointer (some ⟨b, off, none⟩)) (hr : Row w b off cs) (hn : cs.length = n)
    (h : K (a.put o.dst (.agg cs.toArray)) w) : o.wp P a w K Q := by
  unfold Oper.wp execOp
  simp only [ho, hx, Instr.loadAt, Instr.sureAddr, Sem.run_bind, Sem.run_pure, Result.andThen_ok, run_loadVar_at w b off ty cs d hr hu hd (by rw [hi, hn])]
  exact h

set_option maxRecDepth 100000 in
set_option maxHeartbeats 4000000 in
theorem rrefer_ok (w : World) (rb b cap k : Nat) (l : List Ck) (c : Ck) (id t n : Int) (rv : Value) (cur : List Value) (HT : Hid (RTab w rb (.slice (some ⟨b, 0, none⟩) l.length cap) l)) (c0 : w.cell? ⟨rb, 0, none⟩ = some (.slice (some ⟨b, 0, none⟩) l.length cap))
    (HInv : Hid (Inv l)) (HF : Hid (findI l id = k)) (HK : Hid (l[k]? = some c)) (HCur : Hid (w.heap[b]? = some (.cells cur.toArray 45 (0, 0)))) (HRow : Hid (Row w b (k * 23) (c.cells rv))) (HRF : Hid (Refs w rv c.refs)) (HD : Hid (c.dig.length = 16)) (HOk : Hid (CkOk c))
    (hd22 : w.cell? ⟨b, k * 23 + 22, none⟩ = some rv) (hkl : k < l.length) (_ : rb ∉ [b]) (ht0 : 0 ≤ t) (ht1 : t < 16) (hn0 : 1 ≤ n) (hn1 : n ≤ 2147483647) (HTen : Hid (tenB t = true)) (hbig : ¬ totalL c.refs + n > 2147483647)
    (HE : Hid (referL l id t n = (l.set k { c with refs := withL c.refs t (heldL c.refs t + n) }, 0))) :
    Calls Try.prog 55 #[.pointer (some ⟨rb, 0, none⟩), .int .i64 id, .int .i64 t, .int .i64 n] w (RPost rb (.slice (some ⟨b, 0, none⟩) l.length cap) (referL l id t n).1 (.int .i64 (referL l id t n).2) w) := by
  have hrl := HOk.out.len
  have htot := total_take_le (fun x hx => (HOk.out.ref1 x hx).2.2) c.refs.length
  rw [List.take_of_length_le (Nat.le_refl _)] at htot
  have htot1 := htot.1
  have htm := HOk.out.tot
  unfold most at htm
  have hhb := held_bounds (fun x hx => (HOk.out.ref1 x hx).2.2) t
  clear htot
  have hbig' : ¬ 2147483647 < totalL c.refs + n := by omega
  have hsum : IntKind.i64.wrap (heldL c.refs t + n) = heldL c.refs t + n := IntWalk.i64_in _ (by omega)
  obtain ⟨E, hE⟩ : ∃ E, c.cells rv = E := ⟨_, rfl⟩
  have hcl23 : E.length = 23 := by rw [← hE, Ck.cells_len, HD.out]
  have hrg : Row w.drew b (k * 23) E := by rw [← hE]; exact HRow.out.mod ((Mod.refl [] w).drew) (by simp)
  have hheld : ∀ w', Refs w' rv c.refs → Calls Try.prog 64 #[.agg E.toArray, .int .i64 t] w' (fun e w'' => e = .returned (.int .i64 (heldL c.refs t)) ∧ Mod [] w' w'') := fun w' hr => by
    have := rheld_any w' c rv t HD.out hr
    rw [hE] at this
    exact this
  have HHeld := Lib.hid hheld
  clear hE hheld
  go_enter Try.func55, Try.ntmps55
  go_wp2_with (first | (go_at_call 61; refine (rfind_any _ rb _ l id HT.out).mono ?_; rintro e w' ⟨rfl, rfl⟩; rw [HF.out]) | (go_at_call 103; refine (rtenant_any t _).mono ?_; rintro e w' ⟨rfl, rfl⟩; rw [HTen.out]) | (go_at_call 92; refine (rtotal_any _ rv c.refs HRF.out (fun x hx => (HOk.out.ref1 x hx).2.2) HOk.out.tot (by omega)).mono ?_; rintro e w' ⟨rfl, rfl⟩))
  go_cut [9] (fun _ wx => ∃ (rv' : Value) (w3 w4 : World) (sa : Option Addr) (sn sc : Nat), Mod [] w.drew w3 ∧ Mod [] w3 w4 ∧ Refs w4 rv' (withL c.refs t (heldL c.refs t + n)) ∧ Hid (w4.heap[b]? = some (.cells cur.toArray 45 (0, 0))) ∧ rv' = .slice sa sn sc ∧ wx = w4.setCell ⟨b, k * 23 + 22, none⟩ rv')
  case first =>
    refine region_last (L := 28) (S := fun w' => w'.cell? ⟨rb, 0, none⟩ = some (.slice (some ⟨b, 0, none⟩) l.length cap) ∧ w'.cell? ⟨b, k * 23 + 22, none⟩ = some rv ∧ w'.rangeAt b (k * 23) E) (by kernel_rfl) ⟨c0, hd22, hrg⟩ (fun hHeld => ?_)
  -- REGION 8
    refine anyL_take' (i := 0) (v := (.pointer (some ⟨rb, 0, none⟩))) (by kernel_rfl) rfl (by kernel_rfl) (by kernel_rfl) (by kernel_rfl) (fun _ _ _ h => h) (Or.inl ⟨by rfl, ?_⟩) (by assumption) ?_
    · (intro wz hSz; obtain ⟨z0, z1, z2⟩ := hSz; clear z2; go_simp)
    (try simp only [Act.put, List.setIfInBounds_toArray, List.set_cons_zero, List.set_cons_succ])
    refine anyL_take' (i := 1) (v := (.pointer (some ⟨rb, 0, none⟩))) (by kernel_rfl) rfl (by kernel_rfl) (by kernel_rfl) (by kernel_rfl) (fun _ _ _ h => h) (Or.inl ⟨by rfl, ?_⟩) (by assumption) ?_
    · (intro wz hSz; obtain ⟨z0, z1, z2⟩ := hSz; clear z2; go_simp)
    (try simp only [Act.put, List.setIfInBounds_toArray, List.set_cons_zero, List.set_cons_succ])
    refine anyL_take' (i := 2) (v := (.pointer (some ⟨rb, 0, none⟩))) (by kernel_rfl) rfl (by kernel_rfl) (by kernel_rfl) (by kernel_rfl) (fun _ _ _ h => h) (Or.inl ⟨by rfl, ?_⟩) (by assumption) ?_
    · (intro wz hSz; obtain ⟨z0, z1, z2⟩ := hSz; clear z2; go_simp)
    (try simp only [Act.put, List.setIfInBounds_toArray, List.set_cons_zero, List.set_cons_succ])
    refine anyL_take' (i := 3) (v := (.slice (some ⟨b, 0, none⟩) l.length cap)) (by kernel_rfl) rfl (by kernel_rfl) (by kernel_rfl) (by kernel_rfl) (fun _ _ _ h => h) (Or.inl ⟨by rfl, ?_⟩) (by assumption) ?_
    · (intro wz hSz; obtain ⟨z0, z1, z2⟩ := hSz; clear z2; go_simp)
    (try simp only [Act.put, List.setIfInBounds_toArray, List.set_cons_zero, List.set_cons_succ])
    refine anyL_take' (i := 4) (v := (.int .i64 k)) (by kernel_rfl) rfl (by kernel_rfl) (by kernel_rfl) (by kernel_rfl) (fun _ _ _ h => h) (Or.inl ⟨by rfl, ?_⟩) (by assumption) ?_
    · (intro wz hSz; obtain ⟨z0, z1, z2⟩ := hSz; clear z2; go_simp)
    (try simp only [Act.put, List.setIfInBounds_toArray, List.set_cons_zero, List.set_cons_succ])
    refine anyL_take' (i := 5) (v := (.pointer (some ⟨rb, 0, none⟩))) (by kernel_rfl) rfl (by kernel_rfl) (by kernel_rfl) (by kernel_rfl) (fun _ _ _ h => h) (Or.inl ⟨by rfl, ?_⟩) (by assumption) ?_
    · (intro wz hSz; obtain ⟨z0, z1, z2⟩ := hSz; clear z2; go_simp)
    (try simp only [Act.put, List.setIfInBounds_toArray, List.set_cons_zero, List.set_cons_succ])
    refine anyL_take' (i := 6) (v := (.pointer (some ⟨rb, 0, none⟩))) (by kernel_rfl) rfl (by kernel_rfl) (by kernel_rfl) (by kernel_rfl) (fun _ _ _ h => h) (Or.inl ⟨by rfl, ?_⟩) (by assumption) ?_
    · (intro wz hSz; obtain ⟨z0, z1, z2⟩ := hSz; clear z2; go_simp)
    (try simp only [Act.put, List.setIfInBounds_toArray, List.set_cons_zero, List.set_cons_succ])
    refine anyL_take' (i := 7) (v := (.pointer (some ⟨rb, 0, none⟩))) (by kernel_rfl) rfl (by kernel_rfl) (by kernel_rfl) (by kernel_rfl) (fun _ _ _ h => h) (Or.inl ⟨by rfl, ?_⟩) (by assumption) ?_
    · (intro wz hSz; obtain ⟨z0, z1, z2⟩ := hSz; clear z2; go_simp)
    (try simp only [Act.put, List.setIfInBounds_toArray, List.set_cons_zero, List.set_cons_succ])
    refine anyL_take' (i := 8) (v := (.slice (some ⟨b, 0, none⟩) l.length cap)) (by kernel_rfl) rfl (by kernel_rfl) (by kernel_rfl) (by kernel_rfl) (fun _ _ _ h => h) (Or.inl ⟨by rfl, ?_⟩) (by assumption) ?_
    · (intro wz hSz; obtain ⟨z0, z1, z2⟩ := hSz; clear z2; go_simp)
    (try simp only [Act.put, List.setIfInBounds_toArray, List.set_cons_zero, List.set_cons_succ])
    refine anyL_take' (i := 9) (v := (.int .i64 k)) (by kernel_rfl) rfl (by kernel_rfl) (by kernel_rfl) (by kernel_rfl) (fun _ _ _ h => h) (Or.inl ⟨by rfl, ?_⟩) (by assumption) ?_
    · (intro wz hSz; obtain ⟨z0, z1, z2⟩ := hSz; clear z2; go_simp)
    (try simp only [Act.put, List.setIfInBounds_toArray, List.set_cons_zero, List.set_cons_succ])
    refine anyL_take' (i := 10) (v := (.pointer (some ⟨b, k * 23, none⟩))) (by kernel_rfl) rfl (by kernel_rfl) (by kernel_rfl) (by kernel_rfl) (fun _ _ _ h => h) (Or.inl ⟨by rfl, ?_⟩) (by assumption) ?_
    · (intro wz hSz; obtain ⟨z0, z1, z2⟩ := hSz; clear z2; go_simp)
    (try simp only [Act.put, List.setIfInBounds_toArray, List.set_cons_zero, List.set_cons_succ])
    refine anyL_take' (i := 11) (v := (.pointer (some ⟨b, k * 23 + 22, none⟩))) (by kernel_rfl) rfl (by kernel_rfl) (by kernel_rfl) (by kernel_rfl) (fun _ _ _ h => h) (Or.inl ⟨by rfl, ?_⟩) (by assumption) ?_
    · (intro wz hSz; obtain ⟨z0, z1, z2⟩ := hSz; clear z2; go_simp)
    (try simp only [Act.put, List.setIfInBounds_toArray, List.set_cons_zero, List.set_cons_succ])
    refine anyL_take' (i := 12) (v := rv) (by kernel_rfl) rfl (by kernel_rfl) (by kernel_rfl) (by kernel_rfl) (fun _ _ _ h => h) (Or.inl ⟨by rfl, ?_⟩) (by assumption) ?_
    · (intro wz hSz; obtain ⟨z0, z1, z2⟩ := hSz; clear z2; go_simp)
    (try simp only [Act.put, List.setIfInBounds_toArray, List.set_cons_zero, List.set_cons_succ])
    refine anyL_take' (i := 13) (v := (.int .i64 t)) (by kernel_rfl) rfl (by kernel_rfl) (by kernel_rfl) (by kernel_rfl) (fun _ _ _ h => h) (Or.inl ⟨by rfl, ?_⟩) (by assumption) ?_
    · (intro wz hSz; obtain ⟨z0, z1, z2⟩ := hSz; clear z2; go_simp)
    (try simp only [Act.put, List.setIfInBounds_toArray, List.set_cons_zero, List.set_cons_succ])
    refine anyL_take' (i := 14) (v := (.pointer (some ⟨rb, 0, none⟩))) (by kernel_rfl) rfl (by kernel_rfl) (by kernel_rfl) (by kernel_rfl) (fun _ _ _ h => h) (Or.inl ⟨by rfl, ?_⟩) (by assumption) ?_
    · (intro wz hSz; obtain ⟨z0, z1, z2⟩ := hSz; clear z2; go_simp)
    (try simp only [Act.put, List.setIfInBounds_toArray, List.set_cons_zero, List.set_cons_succ])
    refine anyL_take' (i := 15) (v := (.pointer (some ⟨rb, 0, none⟩))) (by kernel_rfl) rfl (by kernel_rfl) (by kernel_rfl) (by kernel_rfl) (fun _ _ _ h => h) (Or.inl ⟨by rfl, ?_⟩) (by assumption) ?_
    · (intro wz hSz; obtain ⟨z0, z1, z2⟩ := hSz; clear z2; go_simp)
    (try simp only [Act.put, List.setIfInBounds_toArray, List.set_cons_zero, List.set_cons_succ])
    refine anyL_take' (i := 16) (v := (.pointer (some ⟨rb, 0, none⟩))) (by kernel_rfl) rfl (by kernel_rfl) (by kernel_rfl) (by kernel_rfl) (fun _ _ _ h => h) (Or.inl ⟨by rfl, ?_⟩) (by assumption) ?_
    · (intro wz hSz; obtain ⟨z0, z1, z2⟩ := hSz; clear z2; go_simp)
    (try simp only [Act.put, List.setIfInBounds_toArray, List.set_cons_zero, List.set_cons_succ])
    refine anyL_take' (i := 17) (v := (.slice (some ⟨b, 0, none⟩) l.length cap)) (by kernel_rfl) rfl (by kernel_rfl) (by kernel_rfl) (by kernel_rfl) (fun _ _ _ h => h) (Or.inl ⟨by rfl, ?_⟩) (by assumption) ?_
    · (intro wz hSz; obtain ⟨z0, z1, z2⟩ := hSz; clear z2; go_simp)
    (try simp only [Act.put, List.setIfInBounds_toArray, List.set_cons_zero, List.set_cons_succ])
    refine anyL_take' (i := 18) (v := (.int .i64 k)) (by kernel_rfl) rfl (by kernel_rfl) (by kernel_rfl) (by kernel_rfl) (fun _ _ _ h => h) (Or.inl ⟨by rfl, ?_⟩) (by assumption) ?_
    · (intro wz hSz; obtain ⟨z0, z1, z2⟩ := hSz; clear z2; go_simp)
    (try simp only [Act.put, List.setIfInBounds_toArray, List.set_cons_zero, List.set_cons_succ])
    refine anyL_take' (i := 19) (v := (.pointer (some ⟨b, k * 23, none⟩))) (by kernel_rfl) rfl (by kernel_rfl) (by kernel_rfl) (by kernel_rfl) (fun _ _ _ h => h) (Or.inl ⟨by rfl, ?_⟩) (by assumption) ?_
    · (intro wz hSz; obtain ⟨z0, z1, z2⟩ := hSz; clear z2; go_simp)
    (try simp only [Act.put, List.setIfInBounds_toArray, List.set_cons_zero, List.set_cons_succ])
    refine anyL_take' (i := 21) (v := (.int .i64 t)) (by kernel_rfl) rfl (by kernel_rfl) (by kernel_rfl) (by kernel_rfl) (fun _ _ _ h => h) (Or.inl ⟨by rfl, ?_⟩) (by assumption) ?_
    · (intro wz hSz; obtain ⟨z0, z1, z2⟩ := hSz; clear z2; go_simp)
    (try simp only [Act.put, List.setIfInBounds_toArray, List.set_cons_zero, List.set_cons_succ])
    refine anyL_take' (i := 23) (v := (.int .i64 n)) (by kernel_rfl) rfl (by kernel_rfl) (by kernel_rfl) (by kernel_rfl) (fun _ _ _ h => h) (Or.inl ⟨by rfl, ?_⟩) (by assumption) ?_
    · (intro wz hSz; obtain ⟨z0, z1, z2⟩ := hSz; clear z2; go_simp)
    (try simp only [Act.put, List.setIfInBounds_toArray, List.set_cons_zero, List.set_cons_succ])
    refine anyL_one' (i := 20) (by kernel_rfl) rfl (fun K' hK => ?_)
    rw [if_pos (by rfl)]
    with_reducible refine wp_load_at 45 (.tmp 57) ?_ _ Try.underlying45 ?_ 23 info45 b (k * 23) E ?_ hrg hcl23 ?_
    · rfl
    · rfl
    · rfl
    refine hK.out _ _ ⟨c0, hd22, hrg⟩ (fun _ => ?_)
    clear hK K'
    (try simp only [Act.put, List.setIfInBounds_toArray, List.set_cons_zero, List.set_cons_succ])
    refine anyL_one' (i := 22) (by kernel_rfl) rfl (fun K' hK => ?_)
    go_simp
    refine (HHeld.out _ (HRF.out.mod0 ((Mod.refl [] w).drew))).mono ?_
    rintro e w3 ⟨rfl, hm3⟩
    have f22 := hm3.cell (b := b) (o := k * 23 + 22) hd22 (by simp)
    have c03 := hm3.cell (b := rb) (o := 0) c0 (by simp)
    have r03 := hrg.mod hm3 (by simp)
    go_wp2_with fail
    refine hK.out _ _ ⟨c03, f22, r03⟩ (fun _ => ?_)
    clear hK K'
    (try simp only [Act.put, List.setIfInBounds_toArray, List.set_cons_zero, List.set_cons_succ])
    refine anyL_take' (i := 24) (v := (.int .i64 (heldL c.refs t + n))) (by kernel_rfl) rfl (by kernel_rfl) (by kernel_rfl) (by kernel_rfl) (fun _ _ _ h => h) (Or.inl ⟨by rfl, ?_⟩) (by assumption) ?_
    · (intro wz hSz; obtain ⟨z0, z1, z2⟩ := hSz; clear z2; go_simp)
    (try simp only [Act.put, List.setIfInBounds_toArray, List.set_cons_zero, List.set_cons_succ])
    refine anyL_one' (i := 25) (by kernel_rfl) rfl (fun K' hK => ?_)
    go_simp
    refine (rwith_any _ rv c.refs t (heldL c.refs t + n) ((HRF.out.mod0 ((Mod.refl [] w).drew)).mod0 hm3) HOk.out.refs (by omega)).mono ?_
    rintro e w4 ⟨rv', rfl, hr', hm4, _⟩
    obtain ⟨sa, sn, sc, rfl⟩ := hr'.isSlice
    have hcur4 := hm4.heap (hm3.heap (((Mod.refl [] w).drew).heap HCur.out (by simp)) (by simp)) (by simp)
    have fz4 := frozen_of_row w4 b (k * 23 + 22) _ _ hcur4
    have g22 := hm4.cell (b := b) (o := k * 23 + 22) f22 (by simp)
    have HCur4 := Lib.hid hcur4
    have k4 := hm4.cell c03 (by simp)
    have r04 := r03.mod hm4 (by simp)
    clear hcur4
    go_wp2_with fail
    refine hK.out _ _ ⟨k4, g22, r04⟩ (fun _ => ?_)
    clear hK K'
    (try simp only [Act.put, List.setIfInBounds_toArray, List.set_cons_zero, List.set_cons_succ])
    refine anyL_one' (i := 26) (by kernel_rfl) rfl (fun K' hK => ?_)
    go_simp
    refine hK.out _ _ ⟨k4, g22, r04⟩ (fun _ => ?_)
    clear hK K'
    (try simp only [Act.put, List.setIfInBounds_toArray, List.set_cons_zero, List.set_cons_succ])
    refine anyL_take' (i := 27) (v := (.pointer (some ⟨b, k * 23 + 22, none⟩))) (by kernel_rfl) rfl (by kernel_rfl) (by kernel_rfl) (by kernel_rfl) (fun _ _ _ h => h) (Or.inl ⟨by rfl, ?_⟩) (by assumption) ?_
    · (intro wz hSz; obtain ⟨z0, z1, z2⟩ := hSz; clear z2; go_simp)
    (try simp only [Act.put, List.setIfInBounds_toArray, List.set_cons_zero, List.set_cons_succ])
    clear r04 r03 hrg
    refine anyL_end' (by kernel_rfl) rfl (by kernel_rfl) (fun K' hK => ?_)
    go_simp
    refine hK.out _ _ ?_
    go_wp2_with fail
    go_meet
    exact ⟨_, w3, w4, sa, sn, sc, hm3, hm4, hr', HCur4, rfl, rfl⟩
  -- END 8
  case rest =>
    obtain ⟨rv', w3, w4, sa, sn, sc, hm3, hm4, hr', HCur4, rfl, rfl⟩ := hcut
    go_wp2
    go_ret
    have hm4' : Mod [] w w4 := (((Mod.refl [] w).drew).trans_nil hm3).trans_nil hm4
    have hT4 := HT.out.mod0 hm4'
    have hs : (w4.setCell ⟨b, k * 23 + 22, none⟩ (.slice sa sn sc)).heap[b]? = some (.cells (cur.set (k * 23 + 22) (.slice sa sn sc)).toArray 45 (0, 0)) := by
      rw [heap_setCell_same w4 b (k * 23 + 22) _ _ _ HCur4.out]
      simp
    have hinv2 := inv_refs HInv.out HK.out (t := t) (n := heldL c.refs t + n) ⟨ht0, ht1⟩ (by omega) (with_ne (by omega)) (by unfold most; omega)
    have hmS : Mod [b] w4 (w4.setCell ⟨b, k * 23 + 22, none⟩ (.slice sa sn sc)) := (Mod.refl _ _).setCell _ _ (by simp)
    have hT5 := rtab_refs hT4 HK.out HCur4.out hs hmS hr' hinv2
    exact ⟨_, by rw [HE.out]; rfl, by rw [HE.out]; exact hT5, hm4'.nil.trans hmS (by simp [rfoot, Value.ownBlock]), .inl rfl⟩

set_option maxRecDepth 100000 in
set_option maxHeartbeats 4000000 in
theorem rrefer_any (w : World) (rb : Nat) (lv : Value) (l : List Ck) (id t n : Int) (h : RTab w rb lv l) :
    Calls Try.prog 55 #[.pointer (some ⟨rb, 0, none⟩), .int .i64 id, .int .i64 t, .int .i64 n] w (RPost rb lv (referL l id t n).1 (.int .i64 (referL l id t n).2) w) := by
  have HT := Lib.hid h
  have c0 := h.open.1
  have hinv := h.open.2.2.1
  have HInv := Lib.hid hinv
  have hrbs := h.parts.2.2.1
  clear hinv
  cases hi : idxOf l id with
  | none =>
    have e1 : referL l id t n = (l, 12) := by simp [referL, hi]
    have hf := findI_none hi
    have HE := Lib.hid e1
    have HF := Lib.hid hf
    clear hi e1 hf h
    go_enter Try.func55, Try.ntmps55
    go_wp2_with (go_at_call 61; refine (rfind_any _ rb _ l id HT.out).mono ?_; rintro e w' ⟨rfl, rfl⟩; rw [HF.out])
    go_ret
    exact ⟨lv, by rw [HE.out]; rfl, by rw [HE.out]; exact HT.out, Mod.refl _ _, .inl rfl⟩
  | some k =>
    obtain ⟨c, hk, hid, _⟩ := idxOf_some.1 hi
    have hf := findI_some hi
    obtain ⟨b, cap, cur, rv, rfl, hcur, hcl, hrow, hrf, hd, hbr, hbs⟩ := h.isSlice hk
    have hkl : k < l.length := (List.getElem?_eq_some_iff.1 hk).1
    have hb2 : rb ∉ [b] := by simpa using fun e => hbr e.symm
    have hok := HInv.out.each c (List.mem_of_getElem? hk)
    have HF := Lib.hid hf
    have HK := Lib.hid hk
    have HCur := Lib.hid hcur
    have HRow := Lib.hid hrow
    have HRF := Lib.hid hrf
    have HD := Lib.hid hd
    have HOk := Lib.hid hok
    have hd22 : w.cell? ⟨b, k * 23 + 22, none⟩ = some rv := hrow.at 22 _ (Ck.c22 hd rv)
    cases hb : argsBad t n with
    | true =>
      have e1 : referL l id t n = (l, 1) := by simp [referL, hi, hb]
      have hw := badWhy hb
      have HE := Lib.hid e1
      clear hi hk hid hf h hcur hrow hrf hd hok e1 hb hd22
      rcases hw with ht | ⟨ht, h1⟩ | ⟨ht, h1, h2⟩
      all_goals
        have HTen := Lib.hid ht
        clear ht
        go_enter Try.func55, Try.ntmps55
        go_wp2_with (first | (go_at_call 61; refine (rfind_any _ rb _ l id HT.out).mono ?_; rintro e w' ⟨rfl, rfl⟩; rw [HF.out]) | (go_at_call 103; refine (rtenant_any t _).mono ?_; rintro e w' ⟨rfl, rfl⟩; rw [HTen.out]))
        go_ret
        exact ⟨_, by rw [HE.out]; rfl, by rw [HE.out]; exact HT.out, Mod.refl _ _, .inl rfl⟩
    | false =>
      obtain ⟨ht0, ht1, hn0, hn1⟩ := argsBad_false hb
      have hten : tenB t = true := by simp [tenB, ht0, ht1]
      have HTen := Lib.hid hten
      have hrl := hok.len
      have htot := total_take_le (fun x hx => (hok.ref1 x hx).2.2) c.refs.length
      rw [List.take_of_length_le (Nat.le_refl _)] at htot
      have htm := hok.tot
      unfold most at htm
      have hhb := held_bounds (fun x hx => (hok.ref1 x hx).2.2) t
      have eqn : referL l id t n = if totalL c.refs + n > most then (l, 2) else (l.set k { c with refs := withL c.refs t (heldL c.refs t + n) }, 0) := by simp [referL, hi, hb, hk]
      clear hi hk hid hf h hcur hrow hrf hd hok hb hten
      by_cases hbig : totalL c.refs + n > most
      · rw [if_pos hbig] at eqn
        have HE := Lib.hid eqn
        unfold most at hbig
        clear eqn
        go_enter Try.func55, Try.ntmps55
        go_wp2_with (first | (go_at_call 61; refine (rfind_any _ rb _ l id HT.out).mono ?_; rintro e w' ⟨rfl, rfl⟩; rw [HF.out]) | (go_at_call 103; refine (rtenant_any t _).mono ?_; rintro e w' ⟨rfl, rfl⟩; rw [HTen.out]) | (go_at_call 92; refine (rtotal_any _ rv c.refs HRF.out (fun x hx => (HOk.out.ref1 x hx).2.2) HOk.out.tot (by omega)).mono ?_; rintro e w' ⟨rfl, rfl⟩))
        go_ret
        exact ⟨_, by rw [HE.out]; rfl, by rw [HE.out]; exact HT.out, Mod.refl _ _, .inl rfl⟩
      · rw [if_neg hbig] at eqn
        unfold most at hbig
        exact rrefer_ok w rb b cap k l c id t n rv cur HT c0 HInv HF HK HCur HRow HRF HD HOk hd22 hkl hb2 ht0 ht1 hn0 hn1 HTen hbig (Lib.hid eqn)

end Go.Proofs.Ytknkifanpppglaa

/- Walks of the reference: Unrefer. -/
namespace Go.Proofs.Ytknkifanpppglaa
open Go.RowKit

/-- the references of the chunk at k were written: the chunks alone -/
theorem rchunks_refs {w2 w3 : World} {rb b n cap : Nat} {l : List Ck} (hT : RTab w2 rb (.slice (some ⟨b, 0, none⟩) n cap) l) {k : Nat} {c : Ck} (hk : l[k]? = some c) {cur : List Value} (hcur : w2.heap[b]? = some (.cells cur.toArray 45 (0, 0)))
    {r : List (Int × Int)} {rv' : Value} (h3 : w3.heap[b]? = some (.cells (cur.set (k * 23 + 22) rv').toArray 45 (0, 0))) (hm : Mod [b] w2 w3) (hr : Refs w2 rv' r) :
    ∃ cs, w3.heap[rb]? = some (.cells #[.slice (some ⟨b, 0, none⟩) n cap] 34 (0, 0)) ∧ Chunks w3 (.slice (some ⟨b, 0, none⟩) n cap) (cs.set k (({ c with refs := r } : Ck), rv')) ∧ cksOf cs = l := by
  have hp := hT.parts
  obtain ⟨cs, a1, a2, rfl, a6⟩ := hT
  obtain ⟨rv, hcs, _, _, hd⟩ := a2.at hk
  obtain ⟨cur', hb, hn, hcap, hlen, _⟩ := a2.1.block
  rw [hcur] at hb
  have : cur = cur' := by simpa using hb
  subst this
  have hkl := (List.getElem?_eq_some_iff.1 hcs).1
  have hl : k * 23 + 23 ≤ cur.length := by rw [List.length_map] at hn; omega
  have hke : (cs.map fun p => p.1.cells p.2)[k]? = some (c.cells rv) := by simp [hcs]
  have o3 := Own.write a2.1 hcur (k := k) (j := 22) (cs := [rv']) hke (by simp) (by rw [splice_one _ _ _ (by omega)]; exact h3)
  rw [Ck.spliceRefs hd rv rv' r] at o3
  have hnr : NoRefs w2 [b] := NoRefs.one hcur (by decide)
  exact ⟨cs, hm.heap a1 (by simpa using fun e => hp.1 b rfl e.symm), a2.write hm hnr o3 (hr.mod hm hnr), rfl⟩

/-- as RPost, but the list may have become nil -/
def RPostN (rb : Nat) (lv : Value) (l' : List Ck) (v : Value) (w : World) (e : Ending) (w' : World) : Prop :=
  ∃ lv', e = .returned v ∧ RTab w' rb lv' l' ∧ Mod (rfoot rb lv) w w' ∧ ∀ g, lv'.ownBlock = some g → lv.ownBlock = some g ∨ w.heap.size ≤ g

theorem RPost.weak {rb : Nat} {lv : Value} {l' : List Ck} {v : Value} {w : World} {e : Ending} {w' : World} (h : RPost rb lv l' v w e w') : RPostN rb lv l' v w e w' := by
  obtain ⟨lv', h1, h2, h3, h4⟩ := h
  refine ⟨lv', h1, h2, h3, fun g hg => ?_⟩
  rcases h4 with h4 | ⟨g', h4, h5⟩
  · exact .inl (by rw [← h4]; exact hg)
  · rw [hg] at h4; cases h4; exact .inr h5

/-- a list that was made anew is stored into the table -/
theorem rtab_new {w5 w6 w7 w8 : World} {rb : Nat} {lv v6 v7 : Value} {es : List (List Value)} {cs : List (Ck × Value)} (hb5 : w5.heap[rb]? = some (.cells #[lv] 34 (0, 0)))
    (hm6 : Mod [] w5 w6) (hfr6 : ∀ g, v6.ownBlock = some g → w5.heap.size ≤ g) (hown6 : Own w6 45 23 v6 es) (hm7 : Mod v6.ownBlock.toList w6 w7) (hfr7 : FreshOr w6 v6 v7) (hown7 : Own w7 45 23 v7 (cs.map fun p => p.1.cells p.2))
    (hh8 : w8.heap[rb]? = some (.cells (List.set [lv] 0 v7).toArray 34 (0, 0))) (hm8 : Mod [rb] w7 w8) (hr5 : ∀ p ∈ cs, Refs w5 p.2 p.1.refs) (hi : Inv (cksOf cs)) :
    RTab w8 rb v7 (cksOf cs) ∧ Mod [rb] w5 w8 ∧ ∀ g, v7.ownBlock = some g → w5.heap.size ≤ g := by
  have hrb := lt_of_heap hb5
  have h7 : ∀ g, v7.ownBlock = some g → w5.heap.size ≤ g := by
    intro g hg
    rcases hfr7 with h1 | ⟨g', h1, h2⟩
    · exact hfr6 g (by rw [← h1]; exact hg)
    · rw [hg] at h1; cases h1; have := hm6.size; omega
  have hn6 : NoRefs w6 v6.ownBlock.toList := by
    intro g hg cur fr hh
    have hg' : v6.ownBlock = some g := by simpa using hg
    rcases hown6.shape with ⟨h1, _⟩ | ⟨b', cap', cur', h1, _, _, _, h5, _⟩
    · rw [h1] at hg'; cases hg'
    · rw [h1] at hg'; cases hg'; rw [h5] at hh; cases hh
  have hb7 : w7.heap[rb]? = some (.cells #[lv] 34 (0, 0)) := hm7.heap (hm6.heap hb5 (by simp)) (fun hx => by have := hfr6 rb (by simpa using hx); omega)
  have hn7 : NoRefs w7 [rb] := NoRefs.one hb7 (by decide)
  refine ⟨⟨cs, by simpa using hh8, ⟨Own.mod hm8 hown7 (fun b hb => by simp; intro e; subst e; have := h7 _ hb; omega), fun p hp => (((hr5 p hp).mod0 hm6).mod hm7 hn6).mod hm8 hn7⟩, rfl, hi⟩, ?_, h7⟩
  refine (hm6.nil.trans hm7 (fun x hx => .inr (hfr6 x (by simpa using hx)))).trans hm8 (fun x hx => .inl hx)

theorem rb_after {w5 w6 w7 : World} {rb : Nat} {o : Obj} {v6 : Value} (hb5 : w5.heap[rb]? = some o) (hm6 : Mod nilV.ownBlock.toList w5 w6) (hfr6 : FreshOr w5 nilV v6) (hm7 : Mod v6.ownBlock.toList w6 w7) : w7.heap[rb]? = some o := by
  have hrb := lt_of_heap hb5
  refine hm7.heap (hm6.heap hb5 (by simp [nilV, Value.ownBlock])) (fun hx => ?_)
  have hx' : v6.ownBlock = some rb := by simpa using hx
  rcases hfr6 with h1 | ⟨g', h1, h2⟩
  · rw [hx'] at h1; cases h1
  · rw [hx'] at h1; cases h1; omega

theorem unrefer_eq {l : List Ck} {id t n : Int} {k : Nat} {c : Ck} (hi : idxOf l id = some k) (hb : argsBad t n = false) (hk : l[k]? = some c) :
    unreferL l id t n = if heldL c.refs t - n < 0 then (l, false, 12) else if withL c.refs t (heldL c.refs t - n) ≠ [] then (l.set k { c with refs := withL c.refs t (heldL c.refs t - n) }, false, 0) else (l.eraseIdx k, true, 0) := by
  simp [unreferL, hi, hb, hk]

/-- the slices of a row that leave one element out -/
theorem src_around {w : World} {E sz b n cap : Nat} {es : List (List Value)} (h : Own w E sz (.slice (some ⟨b, 0, none⟩) n cap) es) {k : Nat} (hk : k < n) : Src w sz (.slice (some ⟨b, 0, none⟩) k cap) (es.take k) ∧ Src w sz (.slice (some ⟨b, (k + 1) * sz, none⟩) (n - (k + 1)) (cap - (k + 1))) (es.drop (k + 1)) := by
  refine ⟨h.src.takeS k cap (by omega), ?_⟩
  have := h.src.dropS (k + 1) (cap - (k + 1)) (by omega)
  rwa [Nat.zero_add] at this

theorem eraseIdx_set {α : Type} (l : List α) (k : Nat) (x : α) : (l.set k x).take k ++ (l.set k x).drop (k + 1) = l.take k ++ l.drop (k + 1) := by
  rw [List.take_set_of_le (Nat.le_refl _), List.drop_set_of_lt (by omega)]

set_option maxRecDepth 100000 in
set_option maxHeartbeats 4000000 in
theorem runrefer_ok (w : World) (rb b cap k : Nat) (l : List Ck) (c : Ck) (id t n m : Int) (rv : Value) (cur : List Value) (HT : Hid (RTab w rb (.slice (some ⟨b, 0, none⟩) l.length cap) l)) (c0 : w.cell? ⟨rb, 0, none⟩ = some (.slice (some ⟨b, 0, none⟩) l.length cap))
    (HInv : Hid (Inv l)) (HF : Hid (findI l id = k)) (HK : Hid (l[k]? = some c)) (HCur : Hid (w.heap[b]? = some (.cells cur.toArray 45 (0, 0)))) (HRow : Hid (Row w b (k * 23) (c.cells rv))) (HRF : Hid (Refs w rv c.refs)) (HD : Hid (c.dig.length = 16)) (HOk : Hid (CkOk c))
    (hd22 : w.cell? ⟨b, k * 23 + 22, none⟩ = some rv) (hHeldLen : Hid (k * 23 + 23 ≤ cur.length)) (hkl : k < l.length) (hlc : l.length ≤ cap) (hl16 : l.length ≤ 65536) (hb2 : rb ∉ [b]) (ht0 : 0 ≤ t) (ht1 : t < 16) (hn0 : 1 ≤ n) (hn1 : n ≤ 2147483647) (HTen : Hid (tenB t = true)) (hm0 : 0 ≤ m) (HM : Hid (heldL c.refs t - n = m))
    (HE : Hid (unreferL l id t n = if withL c.refs t m ≠ [] then (l.set k { c with refs := withL c.refs t m }, false, 0) else (l.eraseIdx k, true, 0))) :
    Calls Try.prog 56 #[.pointer (some ⟨rb, 0, none⟩), .int .i64 id, .int .i64 t, .int .i64 n] w (RPostN rb (.slice (some ⟨b, 0, none⟩) l.length cap) (unreferL l id t n).1 (.tuple #[.bool (unreferL l id t n).2.1, .int .i64 (unreferL l id t n).2.2]) w) := by
  have hrl := HOk.out.len
  have hhb := held_bounds (fun x hx => (HOk.out.ref1 x hx).2.2) t
  have htot := total_take_le (fun x hx => (HOk.out.ref1 x hx).2.2) c.refs.length
  rw [List.take_of_length_le (Nat.le_refl _)] at htot
  have htm := HOk.out.tot
  unfold most at htm
  have hsum : IntKind.i64.wrap (heldL c.refs t - n) = m := by rw [← HM.out]; exact IntWalk.i64_in _ (by have := HM.out; omega)
  have hmn : ¬ m < 0 := by omega
  have hmd1 : Mod [] w w.drew := (Mod.refl [] w).drew
  have HBd := Lib.hid htot
  clear htot htm
  go_enter Try.func56, Try.ntmps56
  go_wp2_with (first | (go_at_call 61; refine (rfind_any _ rb _ l id HT.out).mono ?_; rintro e w' ⟨rfl, rfl⟩; rw [HF.out]) | (go_at_call 103; refine (rtenant_any t _).mono ?_; rintro e w' ⟨rfl, rfl⟩; rw [HTen.out]) | (refine wpList_load_at rfl 45 (.tmp 34) rfl _ Try.underlying45 rfl 23 info45 b (k * 23) (c.cells rv) rfl HRow.out (by rw [Ck.cells_len, HD.out]) ?_) | (go_at_call 64; refine (rheld_any _ c rv t HD.out HRF.out).mono ?_; rintro e w1 ⟨rfl, hm1⟩))
  have c01 := hm1.cell (b := rb) (o := 0) c0 (by simp)
  have hd22' := hm1.cell (b := b) (o := k * 23 + 22) hd22 (by simp)
  have HM1 := Lib.hid hm1
  clear hmd1 c0 hd22 hm1
  go_cut [10] (fun s10 wx => s10 = .int .i64 k ∧ ∃ (w4 : World) (sa : Option Addr) (sc : Nat), Mod [] w1 w4 ∧ Refs w4 (.slice sa (withL c.refs t m).length sc) (withL c.refs t m) ∧ Hid (w4.heap[b]? = some (.cells cur.toArray 45 (0, 0))) ∧ wx = w4.setCell ⟨b, k * 23 + 22, none⟩ (.slice sa (withL c.refs t m).length sc))
  case first =>
    have hmd1 : Mod [] w1 w1.drew := (Mod.refl [] w1).drew
    refine region_last (L := 18) (S := fun w' => w'.cell? ⟨rb, 0, none⟩ = some (.slice (some ⟨b, 0, none⟩) l.length cap) ∧ w'.cell? ⟨b, k * 23 + 22, none⟩ = some rv) (by kernel_rfl) ⟨c01, hd22'⟩ (fun hHeld => ?_)
    refine anyL_take' (i := 0) (v := (.pointer (some ⟨rb, 0, none⟩))) (by kernel_rfl) rfl (by kernel_rfl) (by kernel_rfl) (by kernel_rfl) (fun _ _ _ h => h) (Or.inl ⟨by rfl, ?_⟩) (by assumption) ?_
    · (intro wz hSz; obtain ⟨z0, z1⟩ := hSz; go_simp)
    (try simp only [Act.put, List.setIfInBounds_toArray, List.set_cons_zero, List.set_cons_succ])
    refine anyL_take' (i := 1) (v := (.pointer (some ⟨rb, 0, none⟩))) (by kernel_rfl) rfl (by kernel_rfl) (by kernel_rfl) (by kernel_rfl) (fun _ _ _ h => h) (Or.inl ⟨by rfl, ?_⟩) (by assumption) ?_
    · (intro wz hSz; obtain ⟨z0, z1⟩ := hSz; go_simp)
    (try simp only [Act.put, List.setIfInBounds_toArray, List.set_cons_zero, List.set_cons_succ])
    refine anyL_take' (i := 2) (v := (.pointer (some ⟨rb, 0, none⟩))) (by kernel_rfl) rfl (by kernel_rfl) (by kernel_rfl) (by kernel_rfl) (fun _ _ _ h => h) (Or.inl ⟨by rfl, ?_⟩) (by assumption) ?_
    · (intro wz hSz; obtain ⟨z0, z1⟩ := hSz; go_simp)
    (try simp only [Act.put, List.setIfInBounds_toArray, List.set_cons_zero, List.set_cons_succ])
    refine anyL_take' (i := 3) (v := (.slice (some ⟨b, 0, none⟩) l.length cap)) (by kernel_rfl) rfl (by kernel_rfl) (by kernel_rfl) (by kernel_rfl) (fun _ _ _ h => h) (Or.inl ⟨by rfl, ?_⟩) (by assumption) ?_
    · (intro wz hSz; obtain ⟨z0, z1⟩ := hSz; go_simp)
    (try simp only [Act.put, List.setIfInBounds_toArray, List.set_cons_zero, List.set_cons_succ])
    refine anyL_take' (i := 4) (v := (.int .i64 k)) (by kernel_rfl) rfl (by kernel_rfl) (by kernel_rfl) (by kernel_rfl) (fun _ _ _ h => h) (Or.inl ⟨by rfl, ?_⟩) (by assumption) ?_
    · (intro wz hSz; obtain ⟨z0, z1⟩ := hSz; go_simp)
    (try simp only [Act.put, List.setIfInBounds_toArray, List.set_cons_zero, List.set_cons_succ])
    refine anyL_take' (i := 5) (v := (.pointer (some ⟨rb, 0, none⟩))) (by kernel_rfl) rfl (by kernel_rfl) (by kernel_rfl) (by kernel_rfl) (fun _ _ _ h => h) (Or.inl ⟨by rfl, ?_⟩) (by assumption) ?_
    · (intro wz hSz; obtain ⟨z0, z1⟩ := hSz; go_simp)
    (try simp only [Act.put, List.setIfInBounds_toArray, List.set_cons_zero, List.set_cons_succ])
    refine anyL_take' (i := 6) (v := (.pointer (some ⟨rb, 0, none⟩))) (by kernel_rfl) rfl (by kernel_rfl) (by kernel_rfl) (by kernel_rfl) (fun _ _ _ h => h) (Or.inl ⟨by rfl, ?_⟩) (by assumption) ?_
    · (intro wz hSz; obtain ⟨z0, z1⟩ := hSz; go_simp)
    (try simp only [Act.put, List.setIfInBounds_toArray, List.set_cons_zero, List.set_cons_succ])
    refine anyL_take' (i := 7) (v := (.pointer (some ⟨rb, 0, none⟩))) (by kernel_rfl) rfl (by kernel_rfl) (by kernel_rfl) (by kernel_rfl) (fun _ _ _ h => h) (Or.inl ⟨by rfl, ?_⟩) (by assumption) ?_
    · (intro wz hSz; obtain ⟨z0, z1⟩ := hSz; go_simp)
    (try simp only [Act.put, List.setIfInBounds_toArray, List.set_cons_zero, List.set_cons_succ])
    refine anyL_take' (i := 8) (v := (.slice (some ⟨b, 0, none⟩) l.length cap)) (by kernel_rfl) rfl (by kernel_rfl) (by kernel_rfl) (by kernel_rfl) (fun _ _ _ h => h) (Or.inl ⟨by rfl, ?_⟩) (by assumption) ?_
    · (intro wz hSz; obtain ⟨z0, z1⟩ := hSz; go_simp)
    (try simp only [Act.put, List.setIfInBounds_toArray, List.set_cons_zero, List.set_cons_succ])
    refine anyL_take' (i := 9) (v := (.int .i64 k)) (by kernel_rfl) rfl (by kernel_rfl) (by kernel_rfl) (by kernel_rfl) (fun _ _ _ h => h) (Or.inl ⟨by rfl, ?_⟩) (by assumption) ?_
    · (intro wz hSz; obtain ⟨z0, z1⟩ := hSz; go_simp)
    (try simp only [Act.put, List.setIfInBounds_toArray, List.set_cons_zero, List.set_cons_succ])
    refine anyL_take' (i := 10) (v := (.pointer (some ⟨b, k * 23, none⟩))) (by kernel_rfl) rfl (by kernel_rfl) (by kernel_rfl) (by kernel_rfl) (fun _ _ _ h => h) (Or.inl ⟨by rfl, ?_⟩) (by assumption) ?_
    · (intro wz hSz; obtain ⟨z0, z1⟩ := hSz; go_simp)
    (try simp only [Act.put, List.setIfInBounds_toArray, List.set_cons_zero, List.set_cons_succ])
    refine anyL_take' (i := 11) (v := (.pointer (some ⟨b, k * 23 + 22, none⟩))) (by kernel_rfl) rfl (by kernel_rfl) (by kernel_rfl) (by kernel_rfl) (fun _ _ _ h => h) (Or.inl ⟨by rfl, ?_⟩) (by assumption) ?_
    · (intro wz hSz; obtain ⟨z0, z1⟩ := hSz; go_simp)
    (try simp only [Act.put, List.setIfInBounds_toArray, List.set_cons_zero, List.set_cons_succ])
    refine anyL_take' (i := 12) (v := rv) (by kernel_rfl) rfl (by kernel_rfl) (by kernel_rfl) (by kernel_rfl) (fun _ _ _ h => h) (Or.inl ⟨by rfl, ?_⟩) (by assumption) ?_
    · (intro wz hSz; obtain ⟨z0, z1⟩ := hSz; go_simp)
    (try simp only [Act.put, List.setIfInBounds_toArray, List.set_cons_zero, List.set_cons_succ])
    refine anyL_take' (i := 13) (v := (.int .i64 t)) (by kernel_rfl) rfl (by kernel_rfl) (by kernel_rfl) (by kernel_rfl) (fun _ _ _ h => h) (Or.inl ⟨by rfl, ?_⟩) (by assumption) ?_
    · (intro wz hSz; obtain ⟨z0, z1⟩ := hSz; go_simp)
    (try simp only [Act.put, List.setIfInBounds_toArray, List.set_cons_zero, List.set_cons_succ])
    refine anyL_take' (i := 14) (v := (.int .i64 m)) (by kernel_rfl) rfl (by kernel_rfl) (by kernel_rfl) (by kernel_rfl) (fun _ _ _ h => h) (Or.inl ⟨by rfl, ?_⟩) (by assumption) ?_
    · (intro wz hSz; obtain ⟨z0, z1⟩ := hSz; go_simp)
    (try simp only [Act.put, List.setIfInBounds_toArray, List.set_cons_zero, List.set_cons_succ])
    refine anyL_one' (i := 15) (by kernel_rfl) rfl (fun K' hK => ?_)
    go_simp
    refine (rwith_any _ rv c.refs t m ((HRF.out.mod0 HM1.out).mod0 hmd1) HOk.out.refs (by omega)).mono ?_
    rintro e w4 ⟨rv', rfl, hr', hm4, _⟩
    obtain ⟨sa, sc, rfl⟩ := hr'.sliceLen
    have hcur4 := hm4.heap (hmd1.heap (HM1.out.heap HCur.out (by simp)) (by simp)) (by simp)
    have fz4 := frozen_of_row w4 b (k * 23 + 22) _ _ hcur4
    have g22 := hm4.cell (b := b) (o := k * 23 + 22) hd22' (by simp)
    have HCur4 := Lib.hid hcur4
    have k4 := hm4.cell (b := rb) (o := 0) c01 (by simp)
    clear hcur4
    go_wp2_with fail
    refine hK.out _ _ ⟨k4, g22⟩ (fun _ => ?_)
    clear hK K'
    (try simp only [Act.put, List.setIfInBounds_toArray, List.set_cons_zero, List.set_cons_succ])
    refine anyL_one' (i := 16) (by kernel_rfl) rfl (fun K' hK => ?_)
    go_simp
    refine hK.out _ _ ⟨k4, g22⟩ (fun _ => ?_)
    clear hK K'
    (try simp only [Act.put, List.setIfInBounds_toArray, List.set_cons_zero, List.set_cons_succ])
    refine anyL_take' (i := 17) (v := (.pointer (some ⟨b, k * 23 + 22, none⟩))) (by kernel_rfl) rfl (by kernel_rfl) (by kernel_rfl) (by kernel_rfl) (fun _ _ _ h => h) (Or.inl ⟨by rfl, ?_⟩) (by assumption) ?_
    · (intro wz hSz; obtain ⟨z0, z1⟩ := hSz; go_simp)
    (try simp only [Act.put, List.setIfInBounds_toArray, List.set_cons_zero, List.set_cons_succ])
    refine anyL_end' (by kernel_rfl) rfl (by kernel_rfl) (fun K' hK => ?_)
    go_simp
    refine hK.out _ _ ?_
    go_wp2_with fail
    go_meet
    exact ⟨rfl, w4, sa, sc, hmd1.trans_nil hm4, hr', HCur4, rfl⟩
  case rest =>
    obtain ⟨rfl, w4, sa, sc, hm4, hr', HCur4, rfl⟩ := hcut
    have hmw4 : Mod [] w w4 := HM1.out.trans_nil hm4
    have hT4 := HT.out.mod0 hmw4
    have hs : (w4.setCell ⟨b, k * 23 + 22, none⟩ (.slice sa (withL c.refs t m).length sc)).heap[b]? = some (.cells (cur.set (k * 23 + 22) (.slice sa (withL c.refs t m).length sc)).toArray 45 (0, 0)) := by
      rw [heap_setCell_same w4 b (k * 23 + 22) _ _ _ HCur4.out]
      simp
    have hmS : Mod [b] w4 (w4.setCell ⟨b, k * 23 + 22, none⟩ (.slice sa (withL c.refs t m).length sc)) := (Mod.refl _ _).setCell _ _ (by simp)
    obtain ⟨w5, hw5⟩ : ∃ w5, w4.setCell ⟨b, k * 23 + 22, none⟩ (.slice sa (withL c.refs t m).length sc) = w5 := ⟨_, rfl⟩
    rw [hw5] at hs hmS ⊢
    have hcb : w5.cell? ⟨b, k * 23 + 22, none⟩ = some (.slice sa (withL c.refs t m).length sc) := by
      have hlen : k * 23 + 22 < cur.length := by
        have h1 := hHeldLen.out
        omega
      rw [cell_of_row w5 b (k * 23 + 22) _ _ _ hs]
      simp [hlen]
    have hcr : w5.cell? ⟨rb, 0, none⟩ = some (.slice (some ⟨b, 0, none⟩) l.length cap) := hmS.cell (hm4.cell c01 (by simp)) hb2
    have hm45 : Mod [b] w w5 := hmw4.nil.trans hmS (by simp)
    by_cases hR : withL c.refs t m = []
    · obtain ⟨cs, hrb5, hch5, hcks⟩ := rchunks_refs hT4 HK.out HCur4.out hs hmS hr'
      have hEq := HE.out
      rw [if_neg (by simpa using hR)] at hEq
      have HE2 := Lib.hid hEq
      rw [hR, List.length_nil] at hcb
      obtain ⟨x, hx⟩ : ∃ x : Ck × Value, (({ c with refs := withL c.refs t m } : Ck), Value.slice sa (withL c.refs t m).length sc) = x := ⟨_, rfl⟩
      rw [hx] at hch5
      have hcl : cs.length = l.length := by rw [← hcks, cksOf_len]
      obtain ⟨es, hes⟩ : ∃ es, (cs.set k x).map (fun p => p.1.cells p.2) = es := ⟨_, rfl⟩
      have hel : es.length = l.length := by rw [← hes]; simp [hcl]
      have hown5 : Own w5 45 23 (.slice (some ⟨b, 0, none⟩) l.length cap) es := by rw [← hes]; exact hch5.1
      have hone : ∀ q ∈ es, ∀ u ∈ q, u.oneCell' = true := by rw [← hes]; exact oneCell_cks hch5.2
      have hsr := src_around hown5 hkl
      have herr : es.take k ++ es.drop (k + 1) = (cs.eraseIdx k).map (fun p => p.1.cells p.2) := by
        rw [← hes, List.map_set, eraseIdx_set, ← List.map_take, ← List.map_drop, ← List.map_append, List.eraseIdx_eq_take_drop_succ]
      have hmem : ∀ p ∈ cs.eraseIdx k, Refs w5 p.2 p.1.refs := by
        intro p hp
        refine hch5.2 p ?_
        rw [List.eraseIdx_eq_take_drop_succ, ← eraseIdx_set cs k x] at hp
        rcases List.mem_append.1 hp with h1 | h1
        · exact List.mem_of_mem_take h1
        · exact List.mem_of_mem_drop h1
      have hcke : cksOf (cs.eraseIdx k) = l.eraseIdx k := by
        rw [← hcks]
        exact (map_eraseIdx _ _ _).symm
      have HSr := Lib.hid hsr
      have HErr := Lib.hid herr
      have HMem := Lib.hid hmem
      have HCke := Lib.hid hcke
      have HEl := Lib.hid hel
      have HOne := Lib.hid hone
      have HRb := Lib.hid hrb5
      have hle1 : (es.take k).length ≤ 65536 := by rw [List.length_take, hel]; omega
      have hle2 : (es.drop (k + 1)).length ≤ 65536 := by rw [List.length_drop, hel]; omega
      have HL1 := Lib.hid hle1
      have HL2 := Lib.hid hle2
      have hw1 : IntKind.i64.wrap ((k : Int) + 1) = (k : Int) + 1 := IntWalk.i64_in _ (by omega)
      have hw2 : (0 : Int) ≤ (k : Int) + 1 := by omega
      have hw3 : ((k : Int) + 1).toNat = k + 1 := by omega
      have hw4 : (k : Int) + 1 ≤ (l.length : Int) := by omega
      have hw5' : (k : Int) ≤ (cap : Int) := by omega
      have hw6 : (0 : Int) ≤ (k : Int) := by omega
      have hw8 : k ≤ cap := by omega
      have hw9 : k + 1 ≤ l.length := by omega
      clear hEq hR hw5 hs hmS hT4 hr' HE hch5 hcks hx hcl hes hel hown5 hone hsr herr hmem hcke hrb5 hle1 hle2
      have hfin : ∀ (v6 v7 : Value) (w6 w7 w8 : World), Own w6 45 23 v6 ([] ++ es.take k) → Mod (nilV.ownBlock.toList) w5 w6 → FreshOr w5 nilV v6 → Own w7 45 23 v7 (([] ++ es.take k) ++ es.drop (k + 1)) → Mod v6.ownBlock.toList w6 w7 → FreshOr w6 v6 v7 →
          w8.heap[rb]? = some (.cells (List.set [Value.slice (some ⟨b, 0, none⟩) l.length cap] 0 v7).toArray 34 (0, 0)) → Mod [rb] w7 w8 → RPostN rb (.slice (some ⟨b, 0, none⟩) l.length cap) (unreferL l id t n).1 (.tuple #[.bool (unreferL l id t n).2.1, .int .i64 (unreferL l id t n).2.2]) w (.returned (.tuple #[.bool true, .int .i64 0])) w8 := by
        intro v6 v7 w6 w7 w8 h6 m6 f6 h7 m7 f7 h8 m8
        rw [List.nil_append, HErr.out] at h7
        have hf6 : ∀ g, v6.ownBlock = some g → w5.heap.size ≤ g := by
          intro g hg
          rcases f6 with h1 | ⟨g', h1, h2⟩
          · rw [hg] at h1; cases h1
          · rw [hg] at h1; cases h1; exact h2
        obtain ⟨r1, r2, r3⟩ := rtab_new HRb.out m6 hf6 h6 m7 f7 h7 h8 m8 HMem.out (by rw [HCke.out]; exact inv_erase HInv.out k)
        rw [HCke.out] at r1
        refine ⟨v7, by rw [HE2.out], by rw [HE2.out]; exact r1, ?_, fun g hg => .inr (Nat.le_trans hm45.size (r3 g hg))⟩
        refine (hm45.mono (S' := rfoot rb (.slice (some ⟨b, 0, none⟩) l.length cap)) (by simp [rfoot, Value.ownBlock])).trans r2 (fun x hx => .inl (by simp at hx; simp [rfoot, hx]))
      have HFin := Lib.hid hfin
      clear hfin
      by_cases hcap : cap = k + 1
      · have hcap1 : ¬ cap = k := by omega
        have hrl : l.length - cap = 0 := by omega
        have hk1 : k + 1 = cap := hcap.symm
        have hdr : es.drop (k + 1) = [] := List.drop_of_length_le (by have := HEl.out; omega)
        have HDr := Lib.hid hdr
        clear hcap hdr
        go_wp2_with (first | (at_builtin; refine wpList_append_Own sty_ck rfl (.tmp 70) (.tmp 76) rfl nilV (.slice (some ⟨b, 0, none⟩) k cap) rfl rfl [] (es.take k) (Own.nil _ _ _) HSr.out.1 (fun q hq => HOne.out q (List.mem_of_mem_take hq)) (by have := HL1.out; simp only [List.length_nil, maxLen]; omega) (by have := HL1.out; simp only [List.length_nil]; omega) ?_; intro v6 w6 hown6 hm6 hfr6; obtain ⟨sa6, sn6, sc6, rfl⟩ := Own.isSlice hown6; have hcr6 := hm6.cell hcr (by simp [nilV, Value.ownBlock]); have HOwn6 := Lib.hid hown6; have HFr6 := Lib.hid hfr6; have HM6 := Lib.hid hm6; clear hown6 hfr6 hm6) | (at_builtin; refine wpList_append_Own sty_ck rfl (.tmp 79) (.tmp 86) rfl (.slice sa6 sn6 sc6) (.slice (some ⟨b, 0, none⟩) 0 0) rfl rfl _ (es.drop (k + 1)) HOwn6.out (by rw [HDr.out]; exact Src.empty _ _ _ _ _) (fun q hq => HOne.out q (List.mem_of_mem_drop hq)) (by have := HL1.out; have := HL2.out; simp only [List.length_append, List.length_nil, maxLen]; omega) (by have := HL1.out; have := HL2.out; simp only [List.length_append, List.length_nil]; omega) ?_; intro v7 w7 hown7 hm7 hfr7; obtain ⟨sa7, sn7, sc7, rfl⟩ := Own.isSlice hown7; have HOwn7 := Lib.hid hown7; have HFr7 := Lib.hid hfr7; have HM7 := Lib.hid hm7; have HRb7 := Lib.hid (rb_after HRb.out HM6.out HFr6.out hm7); clear hown7 hfr7 hm7) | (refine wpList_store1 rfl 32 (.tmp 89) (.tmp 87) rfl (by kernel_rfl) rb 0 34 [.slice (some ⟨b, 0, none⟩) l.length cap] (.slice sa7 sn7 sc7) rfl rfl HRb7.out rfl (by simp) ?_; intro w8 hh8 hm8; have HH8 := Lib.hid hh8; have HM8 := Lib.hid hm8; clear hh8 hm8))
        go_ret2
        exact HFin.out _ _ _ _ _ HOwn6.out HM6.out HFr6.out HOwn7.out HM7.out HFr7.out HH8.out HM8.out
      · have hcap1 : ¬ cap = k := by omega
        go_wp2_with (first | (at_builtin; refine wpList_append_Own sty_ck rfl (.tmp 70) (.tmp 76) rfl nilV (.slice (some ⟨b, 0, none⟩) k cap) rfl rfl [] (es.take k) (Own.nil _ _ _) HSr.out.1 (fun q hq => HOne.out q (List.mem_of_mem_take hq)) (by have := HL1.out; simp only [List.length_nil, maxLen]; omega) (by have := HL1.out; simp only [List.length_nil]; omega) ?_; intro v6 w6 hown6 hm6 hfr6; obtain ⟨sa6, sn6, sc6, rfl⟩ := Own.isSlice hown6; have hcr6 := hm6.cell hcr (by simp [nilV, Value.ownBlock]); have HOwn6 := Lib.hid hown6; have HFr6 := Lib.hid hfr6; have HM6 := Lib.hid hm6; clear hown6 hfr6 hm6) | (at_builtin; refine wpList_append_Own sty_ck rfl (.tmp 79) (.tmp 86) rfl (.slice sa6 sn6 sc6) (.slice (some ⟨b, (k + 1) * 23, none⟩) (l.length - (k + 1)) (cap - (k + 1))) rfl rfl _ (es.drop (k + 1)) HOwn6.out (HSr.out.2.mod HM6.out (by simp [nilV, Value.ownBlock])) (fun q hq => HOne.out q (List.mem_of_mem_drop hq)) (by have := HL1.out; have := HL2.out; simp only [List.length_append, List.length_nil, maxLen]; omega) (by have := HL1.out; have := HL2.out; simp only [List.length_append, List.length_nil]; omega) ?_; intro v7 w7 hown7 hm7 hfr7; obtain ⟨sa7, sn7, sc7, rfl⟩ := Own.isSlice hown7; have HOwn7 := Lib.hid hown7; have HFr7 := Lib.hid hfr7; have HM7 := Lib.hid hm7; have HRb7 := Lib.hid (rb_after HRb.out HM6.out HFr6.out hm7); clear hown7 hfr7 hm7) | (refine wpList_store1 rfl 32 (.tmp 89) (.tmp 87) rfl (by kernel_rfl) rb 0 34 [.slice (some ⟨b, 0, none⟩) l.length cap] (.slice sa7 sn7 sc7) rfl rfl HRb7.out rfl (by simp) ?_; intro w8 hh8 hm8; have HH8 := Lib.hid hh8; have HM8 := Lib.hid hm8; clear hh8 hm8))
        go_ret2
        exact HFin.out _ _ _ _ _ HOwn6.out HM6.out HFr6.out HOwn7.out HM7.out HFr7.out HH8.out HM8.out
    · have hRl : (0 : Int) < ((withL c.refs t m).length : Int) := by
        have : (withL c.refs t m).length ≠ 0 := fun e => hR (List.eq_nil_of_length_eq_zero e)
        omega
      have hinv2 := inv_refs HInv.out HK.out (t := t) (n := m) ⟨ht0, ht1⟩ hm0 hR (by have := HM.out; have := HOk.out.tot; omega)
      have hT5 := rtab_refs hT4 HK.out HCur4.out hs hmS hr' hinv2
      have hEq := HE.out
      rw [if_pos hR] at hEq
      have HE2 := Lib.hid hEq
      have HT5 := Lib.hid hT5
      obtain ⟨q, hq⟩ : ∃ q, (withL c.refs t m).length = q := ⟨_, rfl⟩
      rw [hq] at hcb hRl
      clear hEq hR hw5 hs hmS hT4 hT5 hr' hinv2 HE hq
      go_wp2
      go_ret2
      exact ⟨.slice (some ⟨b, 0, none⟩) l.length cap, by rw [HE2.out]; rfl, by rw [HE2.out]; exact HT5.out, hm45.mono (by simp [rfoot, Value.ownBlock]), fun g hg => .inl hg⟩

set_option maxRecDepth 100000 in
set_option maxHeartbeats 4000000 in
theorem runrefer_any (w : World) (rb : Nat) (lv : Value) (l : List Ck) (id t n : Int) (h : RTab w rb lv l) :
    Calls Try.prog 56 #[.pointer (some ⟨rb, 0, none⟩), .int .i64 id, .int .i64 t, .int .i64 n] w (RPostN rb lv (unreferL l id t n).1 (.tuple #[.bool (unreferL l id t n).2.1, .int .i64 (unreferL l id t n).2.2]) w) := by
  have HT := Lib.hid h
  have c0 := h.open.1
  have hinv := h.open.2.2.1
  have HInv := Lib.hid hinv
  have hrbs := h.parts.2.2.1
  have hl16 := inv_len hinv
  clear hinv
  cases hi : idxOf l id with
  | none =>
    have e1 : unreferL l id t n = (l, false, 12) := by simp [unreferL, hi]
    have hf := findI_none hi
    have HE := Lib.hid e1
    have HF := Lib.hid hf
    clear hi e1 hf h
    go_enter Try.func56, Try.ntmps56
    go_wp2_with (go_at_call 61; refine (rfind_any _ rb _ l id HT.out).mono ?_; rintro e w' ⟨rfl, rfl⟩; rw [HF.out])
    go_ret2
    exact ⟨lv, by rw [HE.out]; rfl, by rw [HE.out]; exact HT.out, Mod.refl _ _, fun g hg => .inl hg⟩
  | some k =>
    obtain ⟨c, hk, hid, _⟩ := idxOf_some.1 hi
    have hf := findI_some hi
    obtain ⟨b, cap, cur, rv, rfl, hcur, hcl, hrow, hrf, hd, hbr, hbs⟩ := h.isSlice hk
    have hkl : k < l.length := (List.getElem?_eq_some_iff.1 hk).1
    have hb2 : rb ∉ [b] := by simpa using fun e => hbr e.symm
    have hlc : l.length ≤ cap := by
      obtain ⟨cs, _, a2, a3, _⟩ := h
      have hl2 : cs.length = l.length := by rw [← a3, cksOf_len]
      rcases a2.shape with ⟨h1, _⟩ | ⟨b', cap', h1, _, h3, _, _⟩
      · cases h1
      · injection h1 with h4 h5 h6; omega
    have hok := HInv.out.each c (List.mem_of_getElem? hk)
    have HF := Lib.hid hf
    have HK := Lib.hid hk
    have HCur := Lib.hid hcur
    have HRow := Lib.hid hrow
    have HRF := Lib.hid hrf
    have HD := Lib.hid hd
    have HOk := Lib.hid hok
    have HCl := Lib.hid hcl
    have hd22 : w.cell? ⟨b, k * 23 + 22, none⟩ = some rv := hrow.at 22 _ (Ck.c22 hd rv)
    cases hb : argsBad t n with
    | true =>
      have e1 : unreferL l id t n = (l, false, 1) := by simp [unreferL, hi, hb]
      have hw := badWhy hb
      have HE := Lib.hid e1
      clear hi hk hid hf h hcur hrow hrf hd hok e1 hb hd22 hcl
      rcases hw with ht | ⟨ht, h1⟩ | ⟨ht, h1, h2⟩
      all_goals
        have HTen := Lib.hid ht
        clear ht
        go_enter Try.func56, Try.ntmps56
        go_wp2_with (first | (go_at_call 61; refine (rfind_any _ rb _ l id HT.out).mono ?_; rintro e w' ⟨rfl, rfl⟩; rw [HF.out]) | (go_at_call 103; refine (rtenant_any t _).mono ?_; rintro e w' ⟨rfl, rfl⟩; rw [HTen.out]))
        go_ret2
        exact ⟨_, by rw [HE.out]; rfl, by rw [HE.out]; exact HT.out, Mod.refl _ _, fun g hg => .inl hg⟩
    | false =>
      obtain ⟨ht0, ht1, hn0, hn1⟩ := argsBad_false hb
      have hten : tenB t = true := by simp [tenB, ht0, ht1]
      have HTen := Lib.hid hten
      have eqn := unrefer_eq hi hb hk
      have hhb := held_bounds (fun x hx => (hok.ref1 x hx).2.2) t
      have htot := total_take_le (fun x hx => (hok.ref1 x hx).2.2) c.refs.length
      rw [List.take_of_length_le (Nat.le_refl _)] at htot
      have htm := hok.tot
      unfold most at htm
      clear hi hk hid hf h hcur hrow hrf hd hok hb hten hcl
      by_cases hneg : heldL c.refs t - n < 0
      · rw [if_pos hneg] at eqn
        have HE := Lib.hid eqn
        have hneg2 : heldL c.refs t < n := by omega
        have hsum : IntKind.i64.wrap (heldL c.refs t - n) = heldL c.refs t - n := IntWalk.i64_in _ (by omega)
        clear eqn htot htm
        go_enter Try.func56, Try.ntmps56
        go_wp2_with (first | (go_at_call 61; refine (rfind_any _ rb _ l id HT.out).mono ?_; rintro e w' ⟨rfl, rfl⟩; rw [HF.out]) | (go_at_call 103; refine (rtenant_any t _).mono ?_; rintro e w' ⟨rfl, rfl⟩; rw [HTen.out]) | (refine wpList_load_at rfl 45 (.tmp 34) rfl _ Try.underlying45 rfl 23 info45 b (k * 23) (c.cells rv) rfl HRow.out (by rw [Ck.cells_len, HD.out]) ?_) | (go_at_call 64; refine (rheld_any _ c rv t HD.out HRF.out).mono ?_; rintro e w1 ⟨rfl, hm1⟩))
        go_ret2
        exact ⟨_, by rw [HE.out]; rfl, by rw [HE.out]; exact HT.out.mod0 hm1, hm1.nil, fun g hg => .inl hg⟩
      · rw [if_neg hneg] at eqn
        exact runrefer_ok w rb b cap k l c id t n (heldL c.refs t - n) rv cur HT c0 HInv HF HK HCur HRow HRF HD HOk hd22 HCl hkl hlc hl16 hb2 ht0 ht1 hn0 hn1 HTen (by omega) (Lib.hid rfl) (Lib.hid eqn)

end Go.Proofs.Ytknkifanpppglaa

/- Walks of the reference: Add. -/
namespace Go.Proofs.Ytknkifanpppglaa
open Go.RowKit

theorem wpList_buildSlice_ck {ops : Array Oper} {rest : List Oper} {o : Oper} {a : Act} {w : World} {Q : Exit → Act → World → Prop} (hw : Region.wanted o (yielded ops a.tmps) = true) (x : Operand) (ho : o.op = .buildSlice 32 1 #[(0, x)]) (E : List Value) (hl : E.length = 23) (hx : a.eval x = .agg E.toArray)
    (h : wpList Try.prog ops Q rest (a.put o.dst (.slice (some ⟨w.heap.size, 0, none⟩) 1 1)) (w.alloc (.cells E.toArray 45))) : wpList Try.prog ops Q (o :: rest) a w :=
  wpList_wanted hw fun _ hK => wp_buildSlice_ck x ho E hl hx (hK _ _ h)

theorem freshIn {w5 w6 : World} {v7 : Value} (hs : w5.heap.size ≤ w6.heap.size) (h : FreshOr w6 nilV v7) : ∀ g, v7.ownBlock = some g → w5.heap.size ≤ g := by
  intro g hg
  rcases h with h1 | ⟨g', h1, h2⟩
  · rw [hg] at h1; cases h1
  · rw [hg] at h1; cases h1; omega

theorem freshMod {w5 w6 w7 : World} {v : Value} (h : Mod [] w5 w6) (h2 : Mod v.ownBlock.toList w6 w7) (hf : ∀ g, v.ownBlock = some g → w5.heap.size ≤ g) : Mod [] w5 w7 :=
  h.trans h2 (fun x hx => .inr (hf x (by simpa using hx)))

theorem freshTo {w5 w6 w6' : World} {v v' : Value} (h : Mod [] w5 w6) (hs : w6.heap.size ≤ w6'.heap.size) (hf : ∀ g, v.ownBlock = some g → w5.heap.size ≤ g) (h2 : FreshOr w6' v v') : ∀ g, v'.ownBlock = some g → w5.heap.size ≤ g := by
  intro g hg
  rcases h2 with h1 | ⟨g', h1, h2⟩
  · exact hf g (by rw [← h1]; exact hg)
  · rw [hg] at h1; cases h1; have := h.size; omega
theorem freshTo' {w5 w6 : World} {v v' : Value} (h : Mod [] w5 w6) (hf : ∀ g, v.ownBlock = some g → w5.heap.size ≤ g) (h2 : FreshOr w6 v v') : ∀ g, v'.ownBlock = some g → w5.heap.size ≤ g := freshTo h (Nat.le_refl _) hf h2

/-- a list of the call's own is stored into the table -/
theorem rtab_fin {w5 w8 w9 : World} {rb : Nat} {lv v : Value} {cs : List (Ck × Value)} (hb5 : w5.heap[rb]? = some (.cells #[lv] 34 (0, 0))) (hm : Mod [] w5 w8) (hfr : ∀ g, v.ownBlock = some g → w5.heap.size ≤ g)
    (hown : Own w8 45 23 v (cs.map fun p => p.1.cells p.2)) (hh9 : w9.heap[rb]? = some (.cells (List.set [lv] 0 v).toArray 34 (0, 0))) (hm9 : Mod [rb] w8 w9) (hr : ∀ p ∈ cs, Refs w5 p.2 p.1.refs) (hi : Inv (cksOf cs)) : RTab w9 rb v (cksOf cs) ∧ Mod [rb] w5 w9 := by
  have hrb := lt_of_heap hb5
  have hn : NoRefs w8 [rb] := NoRefs.one (hm.heap hb5 (by simp)) (by decide)
  exact ⟨⟨cs, by simpa using hh9, ⟨Own.mod hm9 hown (fun b hb => by simp; intro e; subst e; have := hfr _ hb; omega), fun p hp => ((hr p hp).mod0 hm).mod hm9 hn⟩, rfl, hi⟩, hm.nil.trans hm9 (fun x hx => .inl hx)⟩

def AddPost (rb : Nat) (lv : Value) (l : List Ck) (d : List Int) (p : Int) (u : U3) (t : Int) (w : World) (e : Ending) (w' : World) : Prop :=
  RPostN rb lv (addL l d p u t).1 (.tuple #[.int .i64 (addL l d p u t).2.1, .int .i64 (addL l d p u t).2.2]) w e w'

theorem AddPost.no {rb : Nat} {lv : Value} {l : List Ck} {d : List Int} {p : Int} {u : U3} {t : Int} {w w' : World} {x : Int} (h : RTab w rb lv l) (e : addL l d p u t = (l, 0, x)) (hm : Mod [] w w') : AddPost rb lv l d p u t w (.returned (.tuple #[.int .i64 0, .int .i64 x])) w' := by
  unfold AddPost
  rw [e]
  exact ⟨lv, rfl, h.mod0 hm, hm.nil, fun g hg => .inl hg⟩

/-- the list behind Add -/
theorem AddPost.yes {rb : Nat} {lv v : Value} {l : List Ck} {d : List Int} {p : Int} {u : U3} {t : Int} {w w5 w8 w9 : World} {k : Nat} {rvn : Value} (h : RTab w rb lv l) (hm5 : Mod [] w w5) (_ : slot l = k) (e : addL l d p u t = (putCk l k (⟨(k : Int) + 1, d, p, u, false, [(t, 1)]⟩ : Ck), (k : Int) + 1, 0)) (hinv : Inv (putCk l k (⟨(k : Int) + 1, d, p, u, false, [(t, 1)]⟩ : Ck)))
    (hr : Refs w5 rvn [(t, 1)]) (hm : Mod [] w5 w8) (hfr : ∀ g, v.ownBlock = some g → w5.heap.size ≤ g) {es : List (List Value)} (hes : ∃ cs, cksOf cs = l ∧ es = cs.map (fun p => p.1.cells p.2) ∧ ∀ p ∈ cs, Refs w p.2 p.1.refs)
    (hown : Own w8 45 23 v ((([] ++ es.take k) ++ [(⟨(k : Int) + 1, d, p, u, false, [(t, 1)]⟩ : Ck).cells rvn]) ++ es.drop k)) (hh9 : w9.heap[rb]? = some (.cells (List.set [lv] 0 v).toArray 34 (0, 0))) (hm9 : Mod [rb] w8 w9) : AddPost rb lv l d p u t w (.returned (.tuple #[.int .i64 ((k : Int) + 1), .int .i64 0])) w9 := by
  obtain ⟨cs, hc1, rfl, hc3⟩ := hes
  obtain ⟨cs0, a1, _⟩ := h
  have hck : cksOf (cs.take k ++ ((⟨(k : Int) + 1, d, p, u, false, [(t, 1)]⟩ : Ck), rvn) :: cs.drop k) = putCk l k (⟨(k : Int) + 1, d, p, u, false, [(t, 1)]⟩ : Ck) := by
    rw [← hc1]; simp [cksOf, putCk, List.map_take, List.map_drop]
  have hown' : Own w8 45 23 v ((cs.take k ++ ((⟨(k : Int) + 1, d, p, u, false, [(t, 1)]⟩ : Ck), rvn) :: cs.drop k).map fun p => p.1.cells p.2) := by
    rw [List.map_append, List.map_cons, List.map_take, List.map_drop]
    simpa using hown
  obtain ⟨r1, r2⟩ := rtab_fin (hm5.heap a1 (by simp)) hm hfr hown' hh9 hm9 (fun q hq => by
    rcases List.mem_append.1 hq with hq | hq
    · exact (hc3 q (List.mem_of_mem_take hq)).mod0 hm5
    · rcases List.mem_cons.1 hq with rfl | hq
      · exact hr
      · exact (hc3 q (List.mem_of_mem_drop hq)).mod0 hm5) (by rw [hck]; exact hinv)
  rw [hck] at r1
  unfold AddPost
  rw [e]
  exact ⟨v, rfl, r1, (hm5.nil.trans r2 (fun x hx => .inl hx)).mono (by intro x hx; simp at hx; simp [rfoot, hx]), fun g hg => .inr (Nat.le_trans hm5.size (hfr g hg))⟩

theorem newck_stored {w4 w6 : World} {k : Nat} {d : List Int} {p : Int} {u : U3} {t : Int} (hd16 : d.length = 16) (hh6 : w6.heap[w4.heap.size + 1]? = some (.cells (splice zeroCells 0 ((⟨(k : Int) + 1, d, p, u, false, [(t, 1)]⟩ : Ck).cells (.slice (some ⟨w4.heap.size, 0, none⟩) 1 1))).toArray 45 (0, 0)))
    (hs6 : Mod [w4.heap.size + 1] ((w4.alloc (.cells #[.int .i64 t, .int .i64 1] 113)).alloc (.cells zeroCells.toArray 45)) w6) : Mod [] w4 w6 ∧ Row w6 (w4.heap.size + 1) 0 ((⟨(k : Int) + 1, d, p, u, false, [(t, 1)]⟩ : Ck).cells (.slice (some ⟨w4.heap.size, 0, none⟩) 1 1)) ∧ Refs w6 (.slice (some ⟨w4.heap.size, 0, none⟩) 1 1) [(t, 1)] := by
  rw [splice_all _ _ (by rw [Ck.cells_len]; show d.length + 7 = 23; omega)] at hh6
  have hq : Mod [w4.heap.size + 1] (w4.alloc (.cells #[.int .i64 t, .int .i64 1] 113)) w6 := (((Mod.refl [] _).alloc _).nil).trans hs6 (fun x hx => .inl hx)
  refine ⟨(((Mod.refl [] w4).alloc _).alloc _).trans hs6 (by simp), Row.of_heap hh6, ?_⟩
  have := Own.lit w4 113 2 [[.int .i64 t, .int .i64 1]] (by simp) (by simp [maxLen]) _ rfl
  exact Own.mod hq this (fun b hb => by simp [Value.ownBlock] at hb; subst hb; simp)

theorem slot_no {l : List Ck} (h : Inv l) {k : Nat} (hk : slot l = k) {c : Ck} (hc : l[k]? = some c) : (c.id == (k : Int) + 1) = false := by
  subst hk
  have := slot_at h hc
  simp; omega

/-- the slices of a row around a place -/
theorem src_at {w : World} {E sz b n cap : Nat} {es : List (List Value)} (h : Own w E sz (.slice (some ⟨b, 0, none⟩) n cap) es) {k : Nat} (hk : k ≤ n) : Src w sz (.slice (some ⟨b, 0, none⟩) k cap) (es.take k) ∧ Src w sz (.slice (some ⟨b, k * sz, none⟩) (n - k) (cap - k)) (es.drop k) := by
  refine ⟨h.src.takeS k cap hk, ?_⟩
  have := h.src.dropS k (cap - k) hk
  rwa [Nat.zero_add] at this

theorem nil_only {w : World} {E sz n cap : Nat} {es : List (List Value)} (h : Own w E sz (.slice none n cap) es) : n = 0 ∧ cap = 0 := by
  rcases h.shape with ⟨h1, _⟩ | ⟨b, cap', cur, h1, _⟩
  · injection h1 with _ h2 h3; exact ⟨h2, h3⟩
  · cases h1
theorem own_addr {w : World} {E sz n cap : Nat} {a : Addr} {es : List (List Value)} (h : Own w E sz (.slice (some a) n cap) es) : ∃ b, a = ⟨b, 0, none⟩ := by
  rcases h.shape with ⟨h1, _⟩ | ⟨b, cap', cur, h1, _⟩
  · cases h1
  · injection h1 with h2 _ _; injection h2 with h3; exact ⟨b, h3⟩

theorem RTab.capLe {w : World} {rb : Nat} {lv : Value} {l : List Ck} (h : RTab w rb lv l) {ad : Option Addr} {n cap : Nat} (e : lv = .slice ad n cap) : l.length ≤ cap := by
  obtain ⟨cs, _, a2, a3, _⟩ := h
  have hl2 : cs.length = l.length := by rw [← a3, cksOf_len]
  rcases a2.shape with ⟨h1, h2⟩ | ⟨b', cap', h1, _, h3, _, _⟩
  · rw [← hl2, h2]; simp
  · rw [h1] at e; injection e with _ h5 h6; omega
theorem RTab.nilLen {w : World} {rb : Nat} {l : List Ck} (h : RTab w rb nilV l) : l.length = 0 := by
  have := h.capLe (ad := none) (n := 0) (cap := 0) rfl
  omega

theorem radd_alloc {w w1 : World} {d : List Int} {u : U3} (h : w1 = (w.alloc (.cells (d.map (Value.int .u8)).toArray 42)).alloc (.cells #[.int .i64 u.row, .int .i64 u.group, .int .i64 u.unit] 26)) :
    Mod [] w w1 ∧ Row w1 w.heap.size 0 (d.map (Value.int .u8)) ∧ Row w1 (w.heap.size + 1) 0 u.cells ∧ w1.heap.size = w.heap.size + 2 := by
  have hh := heap_alloc_at (w.alloc (.cells (d.map (Value.int .u8)).toArray 42)) (.cells #[.int .i64 u.row, .int .i64 u.group, .int .i64 u.unit] 26)
  rw [alloc_size, ← h] at hh
  have hq : Mod [] (w.alloc (.cells (d.map (Value.int .u8)).toArray 42)) w1 := by rw [h]; exact (Mod.refl _ _).alloc _
  exact ⟨by rw [h]; exact ((Mod.refl _ _).alloc _).alloc _, (Row.of_heap (heap_alloc_at w _)).mod hq (by simp), Row.of_heap (cs := u.cells) hh, by rw [h]; simp⟩


end Go.Proofs.Ytknkifanpppglaa

/- Walks of the reference: Add, one of four ways. -/
namespace Go.Proofs.Ytknkifanpppglaa
open Go.RowKit

set_option maxRecDepth 100000 in
set_option maxHeartbeats 8000000 in
theorem radd_A (w : World) (rb : Nat) (lv : Value) (l : List Ck) (d : List Int) (p : Int) (u : U3) (t : Int) (hd16 : d.length = 16) (h : RTab w rb lv l) (hok : u.ok = true) (htn : tenB t = true) (hat : atU l u = none) (hlen : l.length < 65536) (hA : slot l < l.length) :
    Calls Try.prog 54 #[.pointer (some ⟨rb, 0, none⟩), digV d, .int .u32 p, .agg #[.int .i64 u.row, .int .i64 u.group, .int .i64 u.unit], .int .i64 t] w (AddPost rb lv l d p u t w) := by
  obtain ⟨ad, cap, rfl, hrows0⟩ := h.open.2.2.2
  obtain ⟨c0, hc0'⟩ : ∃ c, l[slot l]? = some c := ⟨_, List.getElem?_eq_getElem hA⟩
  obtain ⟨b, _, rfl, _⟩ := hrows0 _ c0 hc0'
  clear hc0' hrows0
  have hc0 := h.open.1
  have hrbs := h.parts.2.2.1
  have hinv := h.open.2.2.1
  have HInv := Lib.hid hinv
  have hinv2 := inv_add hinv (p := p) hok htn hat (by omega) hd16
  have hslot := fun (j : Nat) (c : Ck) (hj : j < slot l) => slot_lt (l := l) (j := j) (c := c) hj
  have hlc : l.length ≤ cap := h.capLe rfl
  have hkn : slot l ≤ l.length := by omega
  have hrows : ∀ (j : Nat) (c : Ck), l[j]? = some c → ∃ b' rv, (some ⟨b, 0, none⟩ : Option Addr) = some ⟨b', 0, none⟩ ∧ Row w b' (j * 23) (c.cells rv) ∧ True := by
    obtain ⟨ad', cap', hq, hr⟩ := h.open.2.2.2
    injection hq with hq1 _ _
    intro j c hc
    obtain ⟨b', rv, e1, e2, _⟩ := hr j c hc
    exact ⟨b', rv, hq1.trans e1, e2, trivial⟩
  have hbi : (65536 : Int) ≤ (l.length : Int) ↔ False := ⟨fun h => by omega, False.elim⟩
  have hk5 : slot l ≤ 70000 := by omega
  obtain ⟨cs, a1, a2, a3, _⟩ := id h
  obtain ⟨es, hes⟩ : ∃ es, cs.map (fun p => p.1.cells p.2) = es := ⟨_, rfl⟩
  have hel : es.length = l.length := by rw [← hes, ← a3]; simp [cksOf]
  have hown : Own w 45 23 (.slice (some ⟨b, 0, none⟩) l.length cap) es := by rw [← hes]; exact a2.1
  have hone : ∀ q ∈ es, ∀ u ∈ q, u.oneCell' = true := by rw [← hes]; exact oneCell_cks a2.2
  have HEs : Hid (∃ cs, cksOf cs = l ∧ es = cs.map (fun p => p.1.cells p.2) ∧ ∀ p ∈ cs, Refs w p.2 p.1.refs) := Lib.hid ⟨cs, a3, hes.symm, a2.2⟩
  obtain ⟨k, hk⟩ : ∃ k, slot l = k := ⟨_, rfl⟩
  have hE : addL l d p u t = (putCk l k (⟨(k : Int) + 1, d, p, u, false, [(t, 1)]⟩ : Ck), (k : Int) + 1, 0) := by
    have hbig : ¬ 65536 ≤ l.length := by omega
    simp [addL, hok, htn, hat, hbig, hk, putCk]
  have hnew : newCk l d p u t = (⟨(k : Int) + 1, d, p, u, false, [(t, 1)]⟩ : Ck) := by unfold newCk; rw [hk]
  rw [hnew, hk] at hinv2
  rw [hk] at hslot hkn hk5 hA
  have HK := Lib.hid hk
  have HE := Lib.hid hE
  have HInv2 := Lib.hid hinv2
  have HSlot := Lib.hid hslot
  have HOk := Lib.hid hok
  have HTn := Lib.hid htn
  have HAt := Lib.hid hat
  have HEl := Lib.hid hel
  have HOwn := Lib.hid hown
  have HOne := Lib.hid hone
  have HRows := Lib.hid hrows
  have HL1 : Hid ((es.take k).length ≤ 65536) := Lib.hid (by rw [List.length_take, hel]; omega)
  have HL2 : Hid ((es.drop k).length ≤ 65536) := Lib.hid (by rw [List.length_drop, hel]; omega)
  obtain ⟨n, hn⟩ : ∃ n, l.length = n := ⟨_, rfl⟩
  rw [hn] at hbi hc0 hkn hA hlc
  have HRb' : Hid (w.heap[rb]? = some (.cells #[(.slice (some ⟨b, 0, none⟩) n cap)] 34 (0, 0))) := Lib.hid (by rw [← hn]; exact a1)
  have HOwn' : Hid (Own w 45 23 (.slice (some ⟨b, 0, none⟩) n cap) es) := Lib.hid (by rw [← hn]; exact hown)
  have HT' : Hid (RTab w rb (.slice (some ⟨b, 0, none⟩) n cap) l) := Lib.hid (by rw [← hn]; exact h)
  have HN := Lib.hid hn
  obtain ⟨dc, hdc⟩ : ∃ dc, dc = (d.map (Value.int .u8)).toArray := ⟨_, rfl⟩
  have hdv : digV d = .agg dc := by (rw [hdc]; try rfl)
  obtain ⟨w1, hw1⟩ : ∃ w1, w1 = (w.alloc (.cells dc 42)).alloc (.cells #[.int .i64 u.row, .int .i64 u.group, .int .i64 u.unit] 26) := ⟨_, rfl⟩
  obtain ⟨hm1, hdr, hun, hs1⟩ := radd_alloc (hdc ▸ hw1)
  have HW1 := Lib.hid hw1
  have HDc := Lib.hid hdc
  have c01 := hm1.cell hc0 (by simp)
  rw [hdv]
  suffices hgoal : Calls Try.prog 54 #[.pointer (some ⟨rb, 0, none⟩), .agg dc, .int .u32 p, .agg #[.int .i64 u.row, .int .i64 u.group, .int .i64 u.unit], .int .i64 t] w (AddPost rb (.slice (some ⟨b, 0, none⟩) n cap) l d p u t w) by
    rw [← hn] at hgoal; exact hgoal
  clear hw1 hdc hdv h hinv hes hel hown hone a1 a2 a3 hrows cs hlen hn hinv2 hslot hok htn hat hk hE hnew
  go_enter Try.func54, Try.ntmps54
  go_wp2_with fail
  rw [← HW1.out]
  clear HW1 HDc hc0
  go_wp2_with (first | (refine wpList_load_at rfl 26 (.tmp 8) rfl _ Try.underlying26 rfl 3 info26 (w.heap.size + 1) 0 u.cells rfl hun rfl ?_) | (go_at_call 33; refine (rvalid_any u _).mono ?_; rintro e w2 ⟨rfl, hmv⟩; rw [HOk.out]; have hun2 := hun.mod hmv (by simp)) | (refine wpList_load_at rfl 26 (.tmp 8) rfl _ Try.underlying26 rfl 3 info26 (w.heap.size + 1) 0 u.cells rfl hun2 rfl ?_) | (go_at_call 103; refine (rtenant_any t _).mono ?_; rintro e w3 ⟨rfl, rfl⟩; rw [HTn.out]) | ((go_at_call 19; refine (rat_any _ rb _ l u (HT'.out.mod0 (hm1.trans_nil hmv))).mono ?_; rintro e w4 ⟨rfl, hma⟩); rw [HAt.out]; simp only [Option.isSome_none, Option.getD_none]; have c04 := hma.cell (hmv.cell c01 (by simp)) (by simp)))
  have HM4 := Lib.hid ((hm1.trans_nil hmv).trans_nil hma)
  have hdr4 := (hdr.mod hmv (by simp)).mod hma (by simp)
  have hun4 := hun2.mod hma (by simp)
  clear hm1 hmv hma hdr hun hun2 c01 hs1
  go_loop [14] (fun s14 => ∃ j : Nat, j ≤ k ∧ s14 = .int .i64 j) (fun s14 => k - (intOf s14).toNat)
  case atStart => exact ⟨0, by omega, rfl⟩
  case round =>
    obtain ⟨j, hj, rfl⟩ := hrel
    have hw1 : IntKind.i64.wrap ((j : Int) + 1) = (j : Int) + 1 := IntWalk.i64_in _ (by omega)
    by_cases hlt : j < k
    · obtain ⟨c, hc⟩ : ∃ c, l[j]? = some c := ⟨_, List.getElem?_eq_getElem (by have := HN.out; omega)⟩
      obtain ⟨b', rv, hbe, hrow, _⟩ := HRows.out j c hc
      cases hbe
      have cid := HM4.out.cell (hrow.at0 _ (Ck.c0 c rv)) (by simp)
      have hid := HSlot.out j c hlt hc
      rw [hid] at cid
      have hjl : (j : Int) < (n : Int) := by omega
      clear hid hrow hc
      go_wp2
      go_round
      case rel => exact ⟨j + 1, by omega, by go_num⟩
      case measure => simp [intOf]; omega
    · obtain rfl : k = j := by omega
      have hcap1 : ¬ cap = k := by omega
      have hw8 : k ≤ cap := by omega
      have HSr := Lib.hid (src_at HOwn'.out (k := k) (by omega))
      obtain ⟨c, hc⟩ : ∃ c, l[k]? = some c := ⟨_, List.getElem?_eq_getElem (by have := HN.out; omega)⟩
      obtain ⟨b', rv, hbe, hrow, _⟩ := HRows.out k c hc
      cases hbe
      have cid := HM4.out.cell (hrow.at0 _ (Ck.c0 c rv)) (by simp)
      have hno := slot_no HInv.out HK.out hc
      have hjl : (k : Int) < (n : Int) := by omega
      clear hrow hc
      go_wp2_with (first | (refine wpList_load_at rfl 42 (.tmp 6) rfl _ Try.underlying42 rfl 16 info42 w.heap.size 0 (d.map (Value.int .u8)) rfl hdr4 (by simpa using hd16) ?_) | (refine wpList_load_at rfl 26 (.tmp 8) rfl _ Try.underlying26 rfl 3 info26 (w.heap.size + 1) 0 u.cells rfl hun4 rfl ?_) | (refine wpList_build_ck rfl (.tmp 61) (.tmp 62) (.tmp 63) (.tmp 64) (.tmp 67) rfl (⟨(k : Int) + 1, d, p, u, false, [(t, 1)]⟩ : Ck) (some ⟨w4.heap.size, 0, none⟩) 1 1 rfl rfl rfl rfl rfl hd16 rfl ?_) | (refine wpList_store_at rfl 45 (.tmp 15) (.tmp 68) rfl 23 info45 (w4.heap.size + 1) 0 45 zeroCells ((⟨(k : Int) + 1, d, p, u, false, [(t, 1)]⟩ : Ck).cells (.slice (some ⟨w4.heap.size, 0, none⟩) 1 1)) rfl rfl (alloc2_at w4 _ _) (by rw [Ck.cells_len]; show d.length + 7 = 23; omega) (oneCell_ck rfl) (by rw [Ck.cells_len]; show 0 + (d.length + 7) ≤ 23; omega) ?_; intro w6 hh6 hs6; obtain ⟨hm46, hrow6, hr6⟩ := newck_stored hd16 hh6 hs6; have hcr6 := hm46.cell c04 (by simp); have HR6 := Lib.hid hr6; have HM6 := Lib.hid (HM4.out.trans_nil hm46); have HRb6 := Lib.hid (HM6.out.heap HRb'.out (by simp)); clear hh6 hs6 hr6 hm46) | (at_builtin; refine wpList_append_Own sty_ck rfl (.tmp 69) (.tmp 75) rfl nilV (.slice (some ⟨b, 0, none⟩) k cap) rfl rfl [] (es.take k) (Own.nil _ _ _) (HSr.out.1.mod HM6.out (by simp)) (fun q hq => HOne.out q (List.mem_of_mem_take hq)) (by have := HL1.out; have := HL2.out; simp only [List.length_nil, maxLen]; omega) (by have := HL1.out; have := HL2.out; simp only [List.length_nil]; omega) ?_; intro v7 w7 hown7 hm7 hfr7; obtain ⟨sa7, sn7, sc7, rfl⟩ := Own.isSlice hown7; have hcr7 := hm7.cell hcr6 (by simp [nilV, Value.ownBlock]); have hrow7 := hrow6.mod hm7 (by simp [nilV, Value.ownBlock]); have HOwn7 := Lib.hid hown7; have HFr7 := Lib.hid (freshIn (Nat.le_refl _) hfr7); have HM7 := Lib.hid (show Mod [] w6 w7 from hm7); clear hown7 hfr7 hm7) | (refine wpList_load_at rfl 45 (.tmp 15) rfl _ Try.underlying45 rfl 23 info45 (w4.heap.size + 1) 0 ((⟨(k : Int) + 1, d, p, u, false, [(t, 1)]⟩ : Ck).cells (.slice (some ⟨w4.heap.size, 0, none⟩) 1 1)) rfl hrow7 (by rw [Ck.cells_len]; show d.length + 7 = 23; omega) ?_) | (refine wpList_buildSlice_ck rfl (.tmp 78) rfl ((⟨(k : Int) + 1, d, p, u, false, [(t, 1)]⟩ : Ck).cells (.slice (some ⟨w4.heap.size, 0, none⟩) 1 1)) (by rw [Ck.cells_len]; show d.length + 7 = 23; omega) rfl ?_) | (at_builtin; refine wpList_append_Own sty_ck rfl (.tmp 77) (.tmp 79) rfl (.slice sa7 sn7 sc7) (.slice (some ⟨w7.heap.size, 0, none⟩) 1 1) rfl rfl _ [(⟨(k : Int) + 1, d, p, u, false, [(t, 1)]⟩ : Ck).cells (.slice (some ⟨w4.heap.size, 0, none⟩) 1 1)] (Own.mod ((Mod.refl [] w7).alloc _) HOwn7.out (by simp)) (Src.one (by rw [Ck.cells_len]; show d.length + 7 = 23; omega) (Row.of_heap (heap_alloc_at _ _))) (fun q hq => by rw [List.mem_singleton.1 hq]; exact oneCell_ck rfl) (by have := HL1.out; have := HL2.out; simp only [List.length_append, List.length_nil, List.length_cons, maxLen]; omega) (by have := HL1.out; have := HL2.out; simp only [List.length_append, List.length_nil, List.length_cons]; omega) ?_; intro v8 w8 hown8 hm8 hfr8; obtain ⟨sa8, sn8, sc8, rfl⟩ := Own.isSlice hown8; have HM8 := Lib.hid (freshMod HM7.out (((Mod.refl [] w7).alloc _).nil.trans hm8 (fun x hx => .inl hx)) HFr7.out); have HFr8 := Lib.hid (freshTo HM7.out (by simp) HFr7.out hfr8); have HOwn8 := Lib.hid hown8; have hcr8 := HM8.out.cell hcr6 (by simp); clear hown8 hfr8 hm8) | (at_builtin; refine wpList_append_Own sty_ck rfl (.tmp 82) (.tmp 88) rfl (.slice sa8 sn8 sc8) (.slice (some ⟨b, k * 23, none⟩) (n - k) (cap - k)) rfl rfl _ (es.drop k) HOwn8.out (HSr.out.2.mod (HM6.out.trans_nil HM8.out) (by simp)) (fun q hq => HOne.out q (List.mem_of_mem_drop hq)) (by have := HL1.out; have := HL2.out; simp only [List.length_append, List.length_nil, List.length_cons, maxLen]; omega) (by have := HL1.out; have := HL2.out; simp only [List.length_append, List.length_nil, List.length_cons]; omega) ?_; intro v9 w9 hown9 hm9 hfr9; obtain ⟨sa9, sn9, sc9, rfl⟩ := Own.isSlice hown9; have HM9 := Lib.hid (freshMod HM8.out hm9 HFr8.out); have HFr9 := Lib.hid (freshTo' HM8.out HFr8.out hfr9); have HOwn9 := Lib.hid hown9; have HRb9 := Lib.hid (HM9.out.heap HRb6.out (by simp)); clear hown9 hfr9 hm9) | (refine wpList_store1 rfl 32 (.tmp 91) (.tmp 89) rfl (by kernel_rfl) rb 0 34 [(.slice (some ⟨b, 0, none⟩) n cap)] (.slice sa9 sn9 sc9) rfl rfl HRb9.out rfl (by simp) ?_; intro w10 hh10 hm10; have HH10 := Lib.hid hh10; have HM10 := Lib.hid hm10; clear hh10 hm10))
      go_ret2
      have hq := AddPost.yes HT'.out HM6.out HK.out HE.out HInv2.out HR6.out HM9.out HFr9.out HEs.out HOwn9.out HH10.out HM10.out
      first | exact hq | (rw [← HN.out] at hq; exact hq)


end Go.Proofs.Ytknkifanpppglaa

/- Walks of the reference: Add, one of four ways. -/
namespace Go.Proofs.Ytknkifanpppglaa
open Go.RowKit

set_option maxRecDepth 100000 in
set_option maxHeartbeats 8000000 in
theorem radd_B (w : World) (rb : Nat) (lv : Value) (l : List Ck) (d : List Int) (p : Int) (u : U3) (t : Int) (hd16 : d.length = 16) (h : RTab w rb lv l) (hok : u.ok = true) (htn : tenB t = true) (hat : atU l u = none) (hlen : l.length < 65536) (hB : lv = .slice none 0 0) :
    Calls Try.prog 54 #[.pointer (some ⟨rb, 0, none⟩), digV d, .int .u32 p, .agg #[.int .i64 u.row, .int .i64 u.group, .int .i64 u.unit], .int .i64 t] w (AddPost rb lv l d p u t w) := by
  subst hB
  have hl0 := h.nilLen
  have hc0 := h.open.1
  have hrbs := h.parts.2.2.1
  have hinv := h.open.2.2.1
  have HInv := Lib.hid hinv
  have hinv2 := inv_add hinv (p := p) hok htn hat (by omega) hd16
  have hslot := fun (j : Nat) (c : Ck) (hj : j < slot l) => slot_lt (l := l) (j := j) (c := c) hj
  have hkz : slot l ≤ 0 := by have := slot_le l; omega
  have hkn : slot l ≤ l.length := slot_le l
  have hrows : True := trivial
  have hbi : (65536 : Int) ≤ (l.length : Int) ↔ False := ⟨fun h => by omega, False.elim⟩
  have hk5 : slot l ≤ 70000 := by omega
  obtain ⟨cs, a1, a2, a3, _⟩ := id h
  obtain ⟨es, hes⟩ : ∃ es, cs.map (fun p => p.1.cells p.2) = es := ⟨_, rfl⟩
  have hel : es.length = l.length := by rw [← hes, ← a3]; simp [cksOf]
  have hown : Own w 45 23 (.slice none 0 0) es := by rw [← hes]; exact a2.1
  have hone : ∀ q ∈ es, ∀ u ∈ q, u.oneCell' = true := by rw [← hes]; exact oneCell_cks a2.2
  have HEs : Hid (∃ cs, cksOf cs = l ∧ es = cs.map (fun p => p.1.cells p.2) ∧ ∀ p ∈ cs, Refs w p.2 p.1.refs) := Lib.hid ⟨cs, a3, hes.symm, a2.2⟩
  obtain ⟨k, hk⟩ : ∃ k, slot l = k := ⟨_, rfl⟩
  have hE : addL l d p u t = (putCk l k (⟨(k : Int) + 1, d, p, u, false, [(t, 1)]⟩ : Ck), (k : Int) + 1, 0) := by
    have hbig : ¬ 65536 ≤ l.length := by omega
    simp [addL, hok, htn, hat, hbig, hk, putCk]
  have hnew : newCk l d p u t = (⟨(k : Int) + 1, d, p, u, false, [(t, 1)]⟩ : Ck) := by unfold newCk; rw [hk]
  rw [hnew, hk] at hinv2
  rw [hk] at hslot hkn hk5
  have HK := Lib.hid hk
  have HE := Lib.hid hE
  have HInv2 := Lib.hid hinv2
  have HSlot := Lib.hid hslot
  have HOk := Lib.hid hok
  have HTn := Lib.hid htn
  have HAt := Lib.hid hat
  have HEl := Lib.hid hel
  have HOwn := Lib.hid hown
  have HOne := Lib.hid hone
  have HRows := Lib.hid hrows
  have HL1 : Hid ((es.take k).length ≤ 65536) := Lib.hid (by rw [List.length_take, hel]; omega)
  have HL2 : Hid ((es.drop k).length ≤ 65536) := Lib.hid (by rw [List.length_drop, hel]; omega)
  obtain ⟨n, hn⟩ : ∃ n, l.length = n := ⟨_, rfl⟩
  rw [hn] at hbi hkn hl0
  have HRb' : Hid (w.heap[rb]? = some (.cells #[(.slice none 0 0)] 34 (0, 0))) := Lib.hid (by exact a1)
  have HOwn' : Hid (Own w 45 23 (.slice none 0 0) es) := Lib.hid (by exact hown)
  have HT' : Hid (RTab w rb (.slice none 0 0) l) := Lib.hid (by exact h)
  subst hl0
  obtain rfl : k = 0 := by omega
  clear hbi hkz hkn
  have HN := Lib.hid hn
  obtain ⟨dc, hdc⟩ : ∃ dc, dc = (d.map (Value.int .u8)).toArray := ⟨_, rfl⟩
  have hdv : digV d = .agg dc := by (rw [hdc]; try rfl)
  obtain ⟨w1, hw1⟩ : ∃ w1, w1 = (w.alloc (.cells dc 42)).alloc (.cells #[.int .i64 u.row, .int .i64 u.group, .int .i64 u.unit] 26) := ⟨_, rfl⟩
  obtain ⟨hm1, hdr, hun, hs1⟩ := radd_alloc (hdc ▸ hw1)
  have HW1 := Lib.hid hw1
  have HDc := Lib.hid hdc
  have c01 := hm1.cell hc0 (by simp)
  rw [hdv]
  suffices hgoal : Calls Try.prog 54 #[.pointer (some ⟨rb, 0, none⟩), .agg dc, .int .u32 p, .agg #[.int .i64 u.row, .int .i64 u.group, .int .i64 u.unit], .int .i64 t] w (AddPost rb (.slice none 0 0) l d p u t w) by
    exact hgoal
  clear hw1 hdc hdv h hinv hes hel hown hone a1 a2 a3 hrows cs hlen hn hinv2 hslot hok htn hat hk hE hnew
  go_enter Try.func54, Try.ntmps54
  go_wp2_with fail
  rw [← HW1.out]
  clear HW1 HDc hc0
  go_wp2_with (first | (refine wpList_load_at rfl 26 (.tmp 8) rfl _ Try.underlying26 rfl 3 info26 (w.heap.size + 1) 0 u.cells rfl hun rfl ?_) | (go_at_call 33; refine (rvalid_any u _).mono ?_; rintro e w2 ⟨rfl, hmv⟩; rw [HOk.out]; have hun2 := hun.mod hmv (by simp)) | (refine wpList_load_at rfl 26 (.tmp 8) rfl _ Try.underlying26 rfl 3 info26 (w.heap.size + 1) 0 u.cells rfl hun2 rfl ?_) | (go_at_call 103; refine (rtenant_any t _).mono ?_; rintro e w3 ⟨rfl, rfl⟩; rw [HTn.out]) | ((go_at_call 19; refine (rat_any _ rb _ l u (HT'.out.mod0 (hm1.trans_nil hmv))).mono ?_; rintro e w4 ⟨rfl, hma⟩); rw [HAt.out]; simp only [Option.isSome_none, Option.getD_none]; have c04 := hma.cell (hmv.cell c01 (by simp)) (by simp)))
  have HM4 := Lib.hid ((hm1.trans_nil hmv).trans_nil hma)
  have hdr4 := (hdr.mod hmv (by simp)).mod hma (by simp)
  have hun4 := hun2.mod hma (by simp)
  clear hm1 hmv hma hdr hun hun2 c01 hs1
  go_loop [14] (fun s14 => s14 = .int .i64 0) (fun _ => 0)
  case atStart => exact rfl
  case round =>
    obtain rfl := hrel
    have HTk : Hid (es.take 0 = []) := Lib.hid (by simp)
    have HDr : Hid (es.drop 0 = []) := Lib.hid (by have e0 : es = [] := List.eq_nil_of_length_eq_zero (by rw [HEl.out, HN.out]); rw [e0]; rfl)
    go_wp2_with (first | (refine wpList_load_at rfl 42 (.tmp 6) rfl _ Try.underlying42 rfl 16 info42 w.heap.size 0 (d.map (Value.int .u8)) rfl hdr4 (by simpa using hd16) ?_) | (refine wpList_load_at rfl 26 (.tmp 8) rfl _ Try.underlying26 rfl 3 info26 (w.heap.size + 1) 0 u.cells rfl hun4 rfl ?_) | (refine wpList_build_ck rfl (.tmp 61) (.tmp 62) (.tmp 63) (.tmp 64) (.tmp 67) rfl (⟨1, d, p, u, false, [(t, 1)]⟩ : Ck) (some ⟨w4.heap.size, 0, none⟩) 1 1 rfl rfl rfl rfl rfl hd16 rfl ?_) | (refine wpList_store_at rfl 45 (.tmp 15) (.tmp 68) rfl 23 info45 (w4.heap.size + 1) 0 45 zeroCells ((⟨1, d, p, u, false, [(t, 1)]⟩ : Ck).cells (.slice (some ⟨w4.heap.size, 0, none⟩) 1 1)) rfl rfl (alloc2_at w4 _ _) (by rw [Ck.cells_len]; show d.length + 7 = 23; omega) (oneCell_ck rfl) (by rw [Ck.cells_len]; show 0 + (d.length + 7) ≤ 23; omega) ?_; intro w6 hh6 hs6; obtain ⟨hm46, hrow6, hr6⟩ := newck_stored hd16 hh6 hs6; have hcr6 := hm46.cell c04 (by simp); have HR6 := Lib.hid hr6; have HM6 := Lib.hid (HM4.out.trans_nil hm46); have HRb6 := Lib.hid (HM6.out.heap HRb'.out (by simp)); clear hh6 hs6 hr6 hm46) | (at_builtin; refine wpList_append_Own sty_ck rfl (.tmp 69) (.tmp 75) rfl nilV (.slice none 0 0) rfl rfl [] (es.take 0) (Own.nil _ _ _) (by rw [HTk.out]; exact Src.nil _ _ _) (fun q hq => HOne.out q (List.mem_of_mem_take hq)) (by have := HL1.out; have := HL2.out; simp only [List.length_nil, maxLen]; omega) (by have := HL1.out; have := HL2.out; simp only [List.length_nil]; omega) ?_; intro v7 w7 hown7 hm7 hfr7; obtain ⟨sa7, sn7, sc7, rfl⟩ := Own.isSlice hown7; have hcr7 := hm7.cell hcr6 (by simp [nilV, Value.ownBlock]); have hrow7 := hrow6.mod hm7 (by simp [nilV, Value.ownBlock]); have HOwn7 := Lib.hid hown7; have HFr7 := Lib.hid (freshIn (Nat.le_refl _) hfr7); have HM7 := Lib.hid (show Mod [] w6 w7 from hm7); clear hown7 hfr7 hm7) | (refine wpList_load_at rfl 45 (.tmp 15) rfl _ Try.underlying45 rfl 23 info45 (w4.heap.size + 1) 0 ((⟨1, d, p, u, false, [(t, 1)]⟩ : Ck).cells (.slice (some ⟨w4.heap.size, 0, none⟩) 1 1)) rfl hrow7 (by rw [Ck.cells_len]; show d.length + 7 = 23; omega) ?_) | (refine wpList_buildSlice_ck rfl (.tmp 78) rfl ((⟨1, d, p, u, false, [(t, 1)]⟩ : Ck).cells (.slice (some ⟨w4.heap.size, 0, none⟩) 1 1)) (by rw [Ck.cells_len]; show d.length + 7 = 23; omega) rfl ?_) | (at_builtin; refine wpList_append_Own sty_ck rfl (.tmp 77) (.tmp 79) rfl (.slice sa7 sn7 sc7) (.slice (some ⟨w7.heap.size, 0, none⟩) 1 1) rfl rfl _ [(⟨1, d, p, u, false, [(t, 1)]⟩ : Ck).cells (.slice (some ⟨w4.heap.size, 0, none⟩) 1 1)] (Own.mod ((Mod.refl [] w7).alloc _) HOwn7.out (by simp)) (Src.one (by rw [Ck.cells_len]; show d.length + 7 = 23; omega) (Row.of_heap (heap_alloc_at _ _))) (fun q hq => by rw [List.mem_singleton.1 hq]; exact oneCell_ck rfl) (by have := HL1.out; have := HL2.out; simp only [List.length_append, List.length_nil, List.length_cons, maxLen]; omega) (by have := HL1.out; have := HL2.out; simp only [List.length_append, List.length_nil, List.length_cons]; omega) ?_; intro v8 w8 hown8 hm8 hfr8; obtain ⟨sa8, sn8, sc8, rfl⟩ := Own.isSlice hown8; have HM8 := Lib.hid (freshMod HM7.out (((Mod.refl [] w7).alloc _).nil.trans hm8 (fun x hx => .inl hx)) HFr7.out); have HFr8 := Lib.hid (freshTo HM7.out (by simp) HFr7.out hfr8); have HOwn8 := Lib.hid hown8; have hcr8 := HM8.out.cell hcr6 (by simp); clear hown8 hfr8 hm8) | (at_builtin; refine wpList_append_Own sty_ck rfl (.tmp 82) (.tmp 88) rfl (.slice sa8 sn8 sc8) (.slice none 0 0) rfl rfl _ (es.drop 0) HOwn8.out (by rw [HDr.out]; exact Src.nil _ _ _) (fun q hq => HOne.out q (List.mem_of_mem_drop hq)) (by have := HL1.out; have := HL2.out; simp only [List.length_append, List.length_nil, List.length_cons, maxLen]; omega) (by have := HL1.out; have := HL2.out; simp only [List.length_append, List.length_nil, List.length_cons]; omega) ?_; intro v9 w9 hown9 hm9 hfr9; obtain ⟨sa9, sn9, sc9, rfl⟩ := Own.isSlice hown9; have HM9 := Lib.hid (freshMod HM8.out hm9 HFr8.out); have HFr9 := Lib.hid (freshTo' HM8.out HFr8.out hfr9); have HOwn9 := Lib.hid hown9; have HRb9 := Lib.hid (HM9.out.heap HRb6.out (by simp)); clear hown9 hfr9 hm9) | (refine wpList_store1 rfl 32 (.tmp 91) (.tmp 89) rfl (by kernel_rfl) rb 0 34 [(.slice none 0 0)] (.slice sa9 sn9 sc9) rfl rfl HRb9.out rfl (by simp) ?_; intro w10 hh10 hm10; have HH10 := Lib.hid hh10; have HM10 := Lib.hid hm10; clear hh10 hm10))
    go_ret2
    have hq := AddPost.yes HT'.out HM6.out HK.out HE.out HInv2.out HR6.out HM9.out HFr9.out HEs.out HOwn9.out HH10.out HM10.out
    first | exact hq | (rw [← HN.out] at hq; exact hq)


end Go.Proofs.Ytknkifanpppglaa

/- Walks of the reference: Add, one of four ways. -/
namespace Go.Proofs.Ytknkifanpppglaa
open Go.RowKit

set_option maxRecDepth 100000 in
set_option maxHeartbeats 8000000 in
theorem radd_C (w : World) (rb : Nat) (lv : Value) (l : List Ck) (d : List Int) (p : Int) (u : U3) (t : Int) (hd16 : d.length = 16) (h : RTab w rb lv l) (hok : u.ok = true) (htn : tenB t = true) (hat : atU l u = none) (hlen : l.length < 65536) (hkl : slot l = l.length) (hC : ∃ b, lv = .slice (some ⟨b, 0, none⟩) l.length l.length) :
    Calls Try.prog 54 #[.pointer (some ⟨rb, 0, none⟩), digV d, .int .u32 p, .agg #[.int .i64 u.row, .int .i64 u.group, .int .i64 u.unit], .int .i64 t] w (AddPost rb lv l d p u t w) := by
  obtain ⟨b, rfl⟩ := hC
  have hc0 := h.open.1
  have hrbs := h.parts.2.2.1
  have hinv := h.open.2.2.1
  have HInv := Lib.hid hinv
  have hinv2 := inv_add hinv (p := p) hok htn hat (by omega) hd16
  have hslot := fun (j : Nat) (c : Ck) (hj : j < slot l) => slot_lt (l := l) (j := j) (c := c) hj
  have hlc : True := trivial
  have hkn : slot l ≤ l.length := by omega
  have hrows : ∀ (j : Nat) (c : Ck), l[j]? = some c → ∃ b' rv, (some ⟨b, 0, none⟩ : Option Addr) = some ⟨b', 0, none⟩ ∧ Row w b' (j * 23) (c.cells rv) ∧ True := by
    obtain ⟨ad', cap', hq, hr⟩ := h.open.2.2.2
    injection hq with hq1 _ _
    intro j c hc
    obtain ⟨b', rv, e1, e2, _⟩ := hr j c hc
    exact ⟨b', rv, hq1.trans e1, e2, trivial⟩
  have hbi : (65536 : Int) ≤ (l.length : Int) ↔ False := ⟨fun h => by omega, False.elim⟩
  have hk5 : slot l ≤ 70000 := by omega
  obtain ⟨cs, a1, a2, a3, _⟩ := id h
  obtain ⟨es, hes⟩ : ∃ es, cs.map (fun p => p.1.cells p.2) = es := ⟨_, rfl⟩
  have hel : es.length = l.length := by rw [← hes, ← a3]; simp [cksOf]
  have hown : Own w 45 23 (.slice (some ⟨b, 0, none⟩) l.length l.length) es := by rw [← hes]; exact a2.1
  have hone : ∀ q ∈ es, ∀ u ∈ q, u.oneCell' = true := by rw [← hes]; exact oneCell_cks a2.2
  have HEs : Hid (∃ cs, cksOf cs = l ∧ es = cs.map (fun p => p.1.cells p.2) ∧ ∀ p ∈ cs, Refs w p.2 p.1.refs) := Lib.hid ⟨cs, a3, hes.symm, a2.2⟩
  obtain ⟨k, hk⟩ : ∃ k, slot l = k := ⟨_, rfl⟩
  have hE : addL l d p u t = (putCk l k (⟨(k : Int) + 1, d, p, u, false, [(t, 1)]⟩ : Ck), (k : Int) + 1, 0) := by
    have hbig : ¬ 65536 ≤ l.length := by omega
    simp [addL, hok, htn, hat, hbig, hk, putCk]
  have hnew : newCk l d p u t = (⟨(k : Int) + 1, d, p, u, false, [(t, 1)]⟩ : Ck) := by unfold newCk; rw [hk]
  rw [hnew, hk] at hinv2
  rw [hk] at hslot hkn hk5 hkl
  have HK := Lib.hid hk
  have HE := Lib.hid hE
  have HInv2 := Lib.hid hinv2
  have HSlot := Lib.hid hslot
  have HOk := Lib.hid hok
  have HTn := Lib.hid htn
  have HAt := Lib.hid hat
  have HEl := Lib.hid hel
  have HOwn := Lib.hid hown
  have HOne := Lib.hid hone
  have HRows := Lib.hid hrows
  have HL1 : Hid ((es.take k).length ≤ 65536) := Lib.hid (by rw [List.length_take, hel]; omega)
  have HL2 : Hid ((es.drop k).length ≤ 65536) := Lib.hid (by rw [List.length_drop, hel]; omega)
  obtain ⟨n, hn⟩ : ∃ n, l.length = n := ⟨_, rfl⟩
  rw [hn] at hbi hc0 hkn hkl
  have HRb' : Hid (w.heap[rb]? = some (.cells #[(.slice (some ⟨b, 0, none⟩) n n)] 34 (0, 0))) := Lib.hid (by rw [← hn]; exact a1)
  have HOwn' : Hid (Own w 45 23 (.slice (some ⟨b, 0, none⟩) n n) es) := Lib.hid (by rw [← hn]; exact hown)
  have HT' : Hid (RTab w rb (.slice (some ⟨b, 0, none⟩) n n) l) := Lib.hid (by rw [← hn]; exact h)
  obtain rfl : k = n := hkl
  have HN := Lib.hid hn
  obtain ⟨dc, hdc⟩ : ∃ dc, dc = (d.map (Value.int .u8)).toArray := ⟨_, rfl⟩
  have hdv : digV d = .agg dc := by (rw [hdc]; try rfl)
  obtain ⟨w1, hw1⟩ : ∃ w1, w1 = (w.alloc (.cells dc 42)).alloc (.cells #[.int .i64 u.row, .int .i64 u.group, .int .i64 u.unit] 26) := ⟨_, rfl⟩
  obtain ⟨hm1, hdr, hun, hs1⟩ := radd_alloc (hdc ▸ hw1)
  have HW1 := Lib.hid hw1
  have HDc := Lib.hid hdc
  have c01 := hm1.cell hc0 (by simp)
  rw [hdv]
  suffices hgoal : Calls Try.prog 54 #[.pointer (some ⟨rb, 0, none⟩), .agg dc, .int .u32 p, .agg #[.int .i64 u.row, .int .i64 u.group, .int .i64 u.unit], .int .i64 t] w (AddPost rb (.slice (some ⟨b, 0, none⟩) k k) l d p u t w) by
    rw [← hn] at hgoal; exact hgoal
  clear hw1 hdc hdv h hinv hes hel hown hone a1 a2 a3 hrows cs hlen hn hinv2 hslot hok htn hat hk hE hnew
  go_enter Try.func54, Try.ntmps54
  go_wp2_with fail
  rw [← HW1.out]
  clear HW1 HDc hc0
  go_wp2_with (first | (refine wpList_load_at rfl 26 (.tmp 8) rfl _ Try.underlying26 rfl 3 info26 (w.heap.size + 1) 0 u.cells rfl hun rfl ?_) | (go_at_call 33; refine (rvalid_any u _).mono ?_; rintro e w2 ⟨rfl, hmv⟩; rw [HOk.out]; have hun2 := hun.mod hmv (by simp)) | (refine wpList_load_at rfl 26 (.tmp 8) rfl _ Try.underlying26 rfl 3 info26 (w.heap.size + 1) 0 u.cells rfl hun2 rfl ?_) | (go_at_call 103; refine (rtenant_any t _).mono ?_; rintro e w3 ⟨rfl, rfl⟩; rw [HTn.out]) | ((go_at_call 19; refine (rat_any _ rb _ l u (HT'.out.mod0 (hm1.trans_nil hmv))).mono ?_; rintro e w4 ⟨rfl, hma⟩); rw [HAt.out]; simp only [Option.isSome_none, Option.getD_none]; have c04 := hma.cell (hmv.cell c01 (by simp)) (by simp)))
  have HM4 := Lib.hid ((hm1.trans_nil hmv).trans_nil hma)
  have hdr4 := (hdr.mod hmv (by simp)).mod hma (by simp)
  have hun4 := hun2.mod hma (by simp)
  clear hm1 hmv hma hdr hun hun2 c01 hs1
  go_loop [14] (fun s14 => ∃ j : Nat, j ≤ k ∧ s14 = .int .i64 j) (fun s14 => k - (intOf s14).toNat)
  case atStart => exact ⟨0, by omega, rfl⟩
  case round =>
    obtain ⟨j, hj, rfl⟩ := hrel
    have hw1 : IntKind.i64.wrap ((j : Int) + 1) = (j : Int) + 1 := IntWalk.i64_in _ (by omega)
    by_cases hlt : j < k
    · obtain ⟨c, hc⟩ : ∃ c, l[j]? = some c := ⟨_, List.getElem?_eq_getElem (by have := HN.out; omega)⟩
      obtain ⟨b', rv, hbe, hrow, _⟩ := HRows.out j c hc
      cases hbe
      have cid := HM4.out.cell (hrow.at0 _ (Ck.c0 c rv)) (by simp)
      have hid := HSlot.out j c hlt hc
      rw [hid] at cid
      have hjl : (j : Int) < (k : Int) := by omega
      clear hid hrow hc
      go_wp2
      go_round
      case rel => exact ⟨j + 1, by omega, by go_num⟩
      case measure => simp [intOf]; omega
    · obtain rfl : k = j := by omega
      have HSr := Lib.hid (src_at HOwn'.out (k := k) (by omega))
      have HDr : Hid (es.drop k = []) := Lib.hid (List.drop_of_length_le (by rw [HEl.out]; have := HN.out; omega))
      have hjl : ¬ (k : Int) < (k : Int) := by omega
      go_wp2_with (first | (refine wpList_load_at rfl 42 (.tmp 6) rfl _ Try.underlying42 rfl 16 info42 w.heap.size 0 (d.map (Value.int .u8)) rfl hdr4 (by simpa using hd16) ?_) | (refine wpList_load_at rfl 26 (.tmp 8) rfl _ Try.underlying26 rfl 3 info26 (w.heap.size + 1) 0 u.cells rfl hun4 rfl ?_) | (refine wpList_build_ck rfl (.tmp 61) (.tmp 62) (.tmp 63) (.tmp 64) (.tmp 67) rfl (⟨(k : Int) + 1, d, p, u, false, [(t, 1)]⟩ : Ck) (some ⟨w4.heap.size, 0, none⟩) 1 1 rfl rfl rfl rfl rfl hd16 rfl ?_) | (refine wpList_store_at rfl 45 (.tmp 15) (.tmp 68) rfl 23 info45 (w4.heap.size + 1) 0 45 zeroCells ((⟨(k : Int) + 1, d, p, u, false, [(t, 1)]⟩ : Ck).cells (.slice (some ⟨w4.heap.size, 0, none⟩) 1 1)) rfl rfl (alloc2_at w4 _ _) (by rw [Ck.cells_len]; show d.length + 7 = 23; omega) (oneCell_ck rfl) (by rw [Ck.cells_len]; show 0 + (d.length + 7) ≤ 23; omega) ?_; intro w6 hh6 hs6; obtain ⟨hm46, hrow6, hr6⟩ := newck_stored hd16 hh6 hs6; have hcr6 := hm46.cell c04 (by simp); have HR6 := Lib.hid hr6; have HM6 := Lib.hid (HM4.out.trans_nil hm46); have HRb6 := Lib.hid (HM6.out.heap HRb'.out (by simp)); clear hh6 hs6 hr6 hm46) | (at_builtin; refine wpList_append_Own sty_ck rfl (.tmp 69) (.tmp 75) rfl nilV (.slice (some ⟨b, 0, none⟩) k k) rfl rfl [] (es.take k) (Own.nil _ _ _) (HSr.out.1.mod HM6.out (by simp)) (fun q hq => HOne.out q (List.mem_of_mem_take hq)) (by have := HL1.out; have := HL2.out; simp only [List.length_nil, maxLen]; omega) (by have := HL1.out; have := HL2.out; simp only [List.length_nil]; omega) ?_; intro v7 w7 hown7 hm7 hfr7; obtain ⟨sa7, sn7, sc7, rfl⟩ := Own.isSlice hown7; have hcr7 := hm7.cell hcr6 (by simp [nilV, Value.ownBlock]); have hrow7 := hrow6.mod hm7 (by simp [nilV, Value.ownBlock]); have HOwn7 := Lib.hid hown7; have HFr7 := Lib.hid (freshIn (Nat.le_refl _) hfr7); have HM7 := Lib.hid (show Mod [] w6 w7 from hm7); clear hown7 hfr7 hm7) | (refine wpList_load_at rfl 45 (.tmp 15) rfl _ Try.underlying45 rfl 23 info45 (w4.heap.size + 1) 0 ((⟨(k : Int) + 1, d, p, u, false, [(t, 1)]⟩ : Ck).cells (.slice (some ⟨w4.heap.size, 0, none⟩) 1 1)) rfl hrow7 (by rw [Ck.cells_len]; show d.length + 7 = 23; omega) ?_) | (refine wpList_buildSlice_ck rfl (.tmp 78) rfl ((⟨(k : Int) + 1, d, p, u, false, [(t, 1)]⟩ : Ck).cells (.slice (some ⟨w4.heap.size, 0, none⟩) 1 1)) (by rw [Ck.cells_len]; show d.length + 7 = 23; omega) rfl ?_) | (at_builtin; refine wpList_append_Own sty_ck rfl (.tmp 77) (.tmp 79) rfl (.slice sa7 sn7 sc7) (.slice (some ⟨w7.heap.size, 0, none⟩) 1 1) rfl rfl _ [(⟨(k : Int) + 1, d, p, u, false, [(t, 1)]⟩ : Ck).cells (.slice (some ⟨w4.heap.size, 0, none⟩) 1 1)] (Own.mod ((Mod.refl [] w7).alloc _) HOwn7.out (by simp)) (Src.one (by rw [Ck.cells_len]; show d.length + 7 = 23; omega) (Row.of_heap (heap_alloc_at _ _))) (fun q hq => by rw [List.mem_singleton.1 hq]; exact oneCell_ck rfl) (by have := HL1.out; have := HL2.out; simp only [List.length_append, List.length_nil, List.length_cons, maxLen]; omega) (by have := HL1.out; have := HL2.out; simp only [List.length_append, List.length_nil, List.length_cons]; omega) ?_; intro v8 w8 hown8 hm8 hfr8; obtain ⟨sa8, sn8, sc8, rfl⟩ := Own.isSlice hown8; have HM8 := Lib.hid (freshMod HM7.out (((Mod.refl [] w7).alloc _).nil.trans hm8 (fun x hx => .inl hx)) HFr7.out); have HFr8 := Lib.hid (freshTo HM7.out (by simp) HFr7.out hfr8); have HOwn8 := Lib.hid hown8; have hcr8 := HM8.out.cell hcr6 (by simp); clear hown8 hfr8 hm8) | (at_builtin; refine wpList_append_Own sty_ck rfl (.tmp 82) (.tmp 88) rfl (.slice sa8 sn8 sc8) (.slice (some ⟨b, 0, none⟩) 0 0) rfl rfl _ (es.drop k) HOwn8.out (by rw [HDr.out]; exact Src.empty _ _ _ _ _) (fun q hq => HOne.out q (List.mem_of_mem_drop hq)) (by have := HL1.out; have := HL2.out; simp only [List.length_append, List.length_nil, List.length_cons, maxLen]; omega) (by have := HL1.out; have := HL2.out; simp only [List.length_append, List.length_nil, List.length_cons]; omega) ?_; intro v9 w9 hown9 hm9 hfr9; obtain ⟨sa9, sn9, sc9, rfl⟩ := Own.isSlice hown9; have HM9 := Lib.hid (freshMod HM8.out hm9 HFr8.out); have HFr9 := Lib.hid (freshTo' HM8.out HFr8.out hfr9); have HOwn9 := Lib.hid hown9; have HRb9 := Lib.hid (HM9.out.heap HRb6.out (by simp)); clear hown9 hfr9 hm9) | (refine wpList_store1 rfl 32 (.tmp 91) (.tmp 89) rfl (by kernel_rfl) rb 0 34 [(.slice (some ⟨b, 0, none⟩) k k)] (.slice sa9 sn9 sc9) rfl rfl HRb9.out rfl (by simp) ?_; intro w10 hh10 hm10; have HH10 := Lib.hid hh10; have HM10 := Lib.hid hm10; clear hh10 hm10))
      go_ret2
      have hq := AddPost.yes HT'.out HM6.out HK.out HE.out HInv2.out HR6.out HM9.out HFr9.out HEs.out HOwn9.out HH10.out HM10.out
      first | exact hq | (rw [← HN.out] at hq; exact hq)


end Go.Proofs.Ytknkifanpppglaa

/- Walks of the reference: Add, one of four ways. -/
namespace Go.Proofs.Ytknkifanpppglaa
open Go.RowKit

set_option maxRecDepth 100000 in
set_option maxHeartbeats 8000000 in
theorem radd_D (w : World) (rb : Nat) (lv : Value) (l : List Ck) (d : List Int) (p : Int) (u : U3) (t : Int) (hd16 : d.length = 16) (h : RTab w rb lv l) (hok : u.ok = true) (htn : tenB t = true) (hat : atU l u = none) (hlen : l.length < 65536) (hkl : slot l = l.length) (hD : ∃ b cap, lv = .slice (some ⟨b, 0, none⟩) l.length cap ∧ l.length < cap) :
    Calls Try.prog 54 #[.pointer (some ⟨rb, 0, none⟩), digV d, .int .u32 p, .agg #[.int .i64 u.row, .int .i64 u.group, .int .i64 u.unit], .int .i64 t] w (AddPost rb lv l d p u t w) := by
  obtain ⟨b, cap, rfl, hD⟩ := hD
  have hc0 := h.open.1
  have hrbs := h.parts.2.2.1
  have hinv := h.open.2.2.1
  have HInv := Lib.hid hinv
  have hinv2 := inv_add hinv (p := p) hok htn hat (by omega) hd16
  have hslot := fun (j : Nat) (c : Ck) (hj : j < slot l) => slot_lt (l := l) (j := j) (c := c) hj
  have hlc : l.length ≤ cap := by omega
  have hkn : slot l ≤ l.length := by omega
  have hrows : ∀ (j : Nat) (c : Ck), l[j]? = some c → ∃ b' rv, (some ⟨b, 0, none⟩ : Option Addr) = some ⟨b', 0, none⟩ ∧ Row w b' (j * 23) (c.cells rv) ∧ True := by
    obtain ⟨ad', cap', hq, hr⟩ := h.open.2.2.2
    injection hq with hq1 _ _
    intro j c hc
    obtain ⟨b', rv, e1, e2, _⟩ := hr j c hc
    exact ⟨b', rv, hq1.trans e1, e2, trivial⟩
  have hbi : (65536 : Int) ≤ (l.length : Int) ↔ False := ⟨fun h => by omega, False.elim⟩
  have hk5 : slot l ≤ 70000 := by omega
  obtain ⟨cs, a1, a2, a3, _⟩ := id h
  obtain ⟨es, hes⟩ : ∃ es, cs.map (fun p => p.1.cells p.2) = es := ⟨_, rfl⟩
  have hel : es.length = l.length := by rw [← hes, ← a3]; simp [cksOf]
  have hown : Own w 45 23 (.slice (some ⟨b, 0, none⟩) l.length cap) es := by rw [← hes]; exact a2.1
  have hone : ∀ q ∈ es, ∀ u ∈ q, u.oneCell' = true := by rw [← hes]; exact oneCell_cks a2.2
  have HEs : Hid (∃ cs, cksOf cs = l ∧ es = cs.map (fun p => p.1.cells p.2) ∧ ∀ p ∈ cs, Refs w p.2 p.1.refs) := Lib.hid ⟨cs, a3, hes.symm, a2.2⟩
  obtain ⟨k, hk⟩ : ∃ k, slot l = k := ⟨_, rfl⟩
  have hE : addL l d p u t = (putCk l k (⟨(k : Int) + 1, d, p, u, false, [(t, 1)]⟩ : Ck), (k : Int) + 1, 0) := by
    have hbig : ¬ 65536 ≤ l.length := by omega
    simp [addL, hok, htn, hat, hbig, hk, putCk]
  have hnew : newCk l d p u t = (⟨(k : Int) + 1, d, p, u, false, [(t, 1)]⟩ : Ck) := by unfold newCk; rw [hk]
  rw [hnew, hk] at hinv2
  rw [hk] at hslot hkn hk5 hkl
  have HK := Lib.hid hk
  have HE := Lib.hid hE
  have HInv2 := Lib.hid hinv2
  have HSlot := Lib.hid hslot
  have HOk := Lib.hid hok
  have HTn := Lib.hid htn
  have HAt := Lib.hid hat
  have HEl := Lib.hid hel
  have HOwn := Lib.hid hown
  have HOne := Lib.hid hone
  have HRows := Lib.hid hrows
  have HL1 : Hid ((es.take k).length ≤ 65536) := Lib.hid (by rw [List.length_take, hel]; omega)
  have HL2 : Hid ((es.drop k).length ≤ 65536) := Lib.hid (by rw [List.length_drop, hel]; omega)
  obtain ⟨n, hn⟩ : ∃ n, l.length = n := ⟨_, rfl⟩
  rw [hn] at hbi hc0 hkn hkl hD
  have HRb' : Hid (w.heap[rb]? = some (.cells #[(.slice (some ⟨b, 0, none⟩) n cap)] 34 (0, 0))) := Lib.hid (by rw [← hn]; exact a1)
  have HOwn' : Hid (Own w 45 23 (.slice (some ⟨b, 0, none⟩) n cap) es) := Lib.hid (by rw [← hn]; exact hown)
  have HT' : Hid (RTab w rb (.slice (some ⟨b, 0, none⟩) n cap) l) := Lib.hid (by rw [← hn]; exact h)
  have HKl := Lib.hid hkl
  clear hkl
  have HN := Lib.hid hn
  obtain ⟨dc, hdc⟩ : ∃ dc, dc = (d.map (Value.int .u8)).toArray := ⟨_, rfl⟩
  have hdv : digV d = .agg dc := by (rw [hdc]; try rfl)
  obtain ⟨w1, hw1⟩ : ∃ w1, w1 = (w.alloc (.cells dc 42)).alloc (.cells #[.int .i64 u.row, .int .i64 u.group, .int .i64 u.unit] 26) := ⟨_, rfl⟩
  obtain ⟨hm1, hdr, hun, hs1⟩ := radd_alloc (hdc ▸ hw1)
  have HW1 := Lib.hid hw1
  have HDc := Lib.hid hdc
  have c01 := hm1.cell hc0 (by simp)
  rw [hdv]
  suffices hgoal : Calls Try.prog 54 #[.pointer (some ⟨rb, 0, none⟩), .agg dc, .int .u32 p, .agg #[.int .i64 u.row, .int .i64 u.group, .int .i64 u.unit], .int .i64 t] w (AddPost rb (.slice (some ⟨b, 0, none⟩) n cap) l d p u t w) by
    rw [← hn] at hgoal; exact hgoal
  clear hw1 hdc hdv h hinv hes hel hown hone a1 a2 a3 hrows cs hlen hn hinv2 hslot hok htn hat hk hE hnew
  go_enter Try.func54, Try.ntmps54
  go_wp2_with fail
  rw [← HW1.out]
  clear HW1 HDc hc0
  go_wp2_with (first | (refine wpList_load_at rfl 26 (.tmp 8) rfl _ Try.underlying26 rfl 3 info26 (w.heap.size + 1) 0 u.cells rfl hun rfl ?_) | (go_at_call 33; refine (rvalid_any u _).mono ?_; rintro e w2 ⟨rfl, hmv⟩; rw [HOk.out]; have hun2 := hun.mod hmv (by simp)) | (refine wpList_load_at rfl 26 (.tmp 8) rfl _ Try.underlying26 rfl 3 info26 (w.heap.size + 1) 0 u.cells rfl hun2 rfl ?_) | (go_at_call 103; refine (rtenant_any t _).mono ?_; rintro e w3 ⟨rfl, rfl⟩; rw [HTn.out]) | ((go_at_call 19; refine (rat_any _ rb _ l u (HT'.out.mod0 (hm1.trans_nil hmv))).mono ?_; rintro e w4 ⟨rfl, hma⟩); rw [HAt.out]; simp only [Option.isSome_none, Option.getD_none]; have c04 := hma.cell (hmv.cell c01 (by simp)) (by simp)))
  have HM4 := Lib.hid ((hm1.trans_nil hmv).trans_nil hma)
  have hdr4 := (hdr.mod hmv (by simp)).mod hma (by simp)
  have hun4 := hun2.mod hma (by simp)
  clear hm1 hmv hma hdr hun hun2 c01 hs1
  go_loop [14] (fun s14 => ∃ j : Nat, j ≤ k ∧ s14 = .int .i64 j) (fun s14 => k - (intOf s14).toNat)
  case atStart => exact ⟨0, by omega, rfl⟩
  case round =>
    obtain ⟨j, hj, rfl⟩ := hrel
    have hw1 : IntKind.i64.wrap ((j : Int) + 1) = (j : Int) + 1 := IntWalk.i64_in _ (by omega)
    by_cases hlt : j < k
    · obtain ⟨c, hc⟩ : ∃ c, l[j]? = some c := ⟨_, List.getElem?_eq_getElem (by have := HN.out; omega)⟩
      obtain ⟨b', rv, hbe, hrow, _⟩ := HRows.out j c hc
      cases hbe
      have cid := HM4.out.cell (hrow.at0 _ (Ck.c0 c rv)) (by simp)
      have hid := HSlot.out j c hlt hc
      rw [hid] at cid
      have hjl : (j : Int) < (n : Int) := by omega
      clear hid hrow hc
      go_wp2
      go_round
      case rel => exact ⟨j + 1, by omega, by go_num⟩
      case measure => simp [intOf]; omega
    · obtain rfl : k = j := by omega
      have hcap1 : ¬ cap = k := by have := HKl.out; omega
      have hw8 : k ≤ cap := by omega
      have HSr := Lib.hid (src_at HOwn'.out (k := k) (by omega))
      have hjl : ¬ (k : Int) < (n : Int) := by have := HKl.out; omega
      go_wp2_with (first | (refine wpList_load_at rfl 42 (.tmp 6) rfl _ Try.underlying42 rfl 16 info42 w.heap.size 0 (d.map (Value.int .u8)) rfl hdr4 (by simpa using hd16) ?_) | (refine wpList_load_at rfl 26 (.tmp 8) rfl _ Try.underlying26 rfl 3 info26 (w.heap.size + 1) 0 u.cells rfl hun4 rfl ?_) | (refine wpList_build_ck rfl (.tmp 61) (.tmp 62) (.tmp 63) (.tmp 64) (.tmp 67) rfl (⟨(k : Int) + 1, d, p, u, false, [(t, 1)]⟩ : Ck) (some ⟨w4.heap.size, 0, none⟩) 1 1 rfl rfl rfl rfl rfl hd16 rfl ?_) | (refine wpList_store_at rfl 45 (.tmp 15) (.tmp 68) rfl 23 info45 (w4.heap.size + 1) 0 45 zeroCells ((⟨(k : Int) + 1, d, p, u, false, [(t, 1)]⟩ : Ck).cells (.slice (some ⟨w4.heap.size, 0, none⟩) 1 1)) rfl rfl (alloc2_at w4 _ _) (by rw [Ck.cells_len]; show d.length + 7 = 23; omega) (oneCell_ck rfl) (by rw [Ck.cells_len]; show 0 + (d.length + 7) ≤ 23; omega) ?_; intro w6 hh6 hs6; obtain ⟨hm46, hrow6, hr6⟩ := newck_stored hd16 hh6 hs6; have hcr6 := hm46.cell c04 (by simp); have HR6 := Lib.hid hr6; have HM6 := Lib.hid (HM4.out.trans_nil hm46); have HRb6 := Lib.hid (HM6.out.heap HRb'.out (by simp)); clear hh6 hs6 hr6 hm46) | (at_builtin; refine wpList_append_Own sty_ck rfl (.tmp 69) (.tmp 75) rfl nilV (.slice (some ⟨b, 0, none⟩) k cap) rfl rfl [] (es.take k) (Own.nil _ _ _) (HSr.out.1.mod HM6.out (by simp)) (fun q hq => HOne.out q (List.mem_of_mem_take hq)) (by have := HL1.out; have := HL2.out; simp only [List.length_nil, maxLen]; omega) (by have := HL1.out; have := HL2.out; simp only [List.length_nil]; omega) ?_; intro v7 w7 hown7 hm7 hfr7; obtain ⟨sa7, sn7, sc7, rfl⟩ := Own.isSlice hown7; have hcr7 := hm7.cell hcr6 (by simp [nilV, Value.ownBlock]); have hrow7 := hrow6.mod hm7 (by simp [nilV, Value.ownBlock]); have HOwn7 := Lib.hid hown7; have HFr7 := Lib.hid (freshIn (Nat.le_refl _) hfr7); have HM7 := Lib.hid (show Mod [] w6 w7 from hm7); clear hown7 hfr7 hm7) | (refine wpList_load_at rfl 45 (.tmp 15) rfl _ Try.underlying45 rfl 23 info45 (w4.heap.size + 1) 0 ((⟨(k : Int) + 1, d, p, u, false, [(t, 1)]⟩ : Ck).cells (.slice (some ⟨w4.heap.size, 0, none⟩) 1 1)) rfl hrow7 (by rw [Ck.cells_len]; show d.length + 7 = 23; omega) ?_) | (refine wpList_buildSlice_ck rfl (.tmp 78) rfl ((⟨(k : Int) + 1, d, p, u, false, [(t, 1)]⟩ : Ck).cells (.slice (some ⟨w4.heap.size, 0, none⟩) 1 1)) (by rw [Ck.cells_len]; show d.length + 7 = 23; omega) rfl ?_) | (at_builtin; refine wpList_append_Own sty_ck rfl (.tmp 77) (.tmp 79) rfl (.slice sa7 sn7 sc7) (.slice (some ⟨w7.heap.size, 0, none⟩) 1 1) rfl rfl _ [(⟨(k : Int) + 1, d, p, u, false, [(t, 1)]⟩ : Ck).cells (.slice (some ⟨w4.heap.size, 0, none⟩) 1 1)] (Own.mod ((Mod.refl [] w7).alloc _) HOwn7.out (by simp)) (Src.one (by rw [Ck.cells_len]; show d.length + 7 = 23; omega) (Row.of_heap (heap_alloc_at _ _))) (fun q hq => by rw [List.mem_singleton.1 hq]; exact oneCell_ck rfl) (by have := HL1.out; have := HL2.out; simp only [List.length_append, List.length_nil, List.length_cons, maxLen]; omega) (by have := HL1.out; have := HL2.out; simp only [List.length_append, List.length_nil, List.length_cons]; omega) ?_; intro v8 w8 hown8 hm8 hfr8; obtain ⟨sa8, sn8, sc8, rfl⟩ := Own.isSlice hown8; have HM8 := Lib.hid (freshMod HM7.out (((Mod.refl [] w7).alloc _).nil.trans hm8 (fun x hx => .inl hx)) HFr7.out); have HFr8 := Lib.hid (freshTo HM7.out (by simp) HFr7.out hfr8); have HOwn8 := Lib.hid hown8; have hcr8 := HM8.out.cell hcr6 (by simp); clear hown8 hfr8 hm8) | (at_builtin; refine wpList_append_Own sty_ck rfl (.tmp 82) (.tmp 88) rfl (.slice sa8 sn8 sc8) (.slice (some ⟨b, k * 23, none⟩) (n - k) (cap - k)) rfl rfl _ (es.drop k) HOwn8.out (HSr.out.2.mod (HM6.out.trans_nil HM8.out) (by simp)) (fun q hq => HOne.out q (List.mem_of_mem_drop hq)) (by have := HL1.out; have := HL2.out; simp only [List.length_append, List.length_nil, List.length_cons, maxLen]; omega) (by have := HL1.out; have := HL2.out; simp only [List.length_append, List.length_nil, List.length_cons]; omega) ?_; intro v9 w9 hown9 hm9 hfr9; obtain ⟨sa9, sn9, sc9, rfl⟩ := Own.isSlice hown9; have HM9 := Lib.hid (freshMod HM8.out hm9 HFr8.out); have HFr9 := Lib.hid (freshTo' HM8.out HFr8.out hfr9); have HOwn9 := Lib.hid hown9; have HRb9 := Lib.hid (HM9.out.heap HRb6.out (by simp)); clear hown9 hfr9 hm9) | (refine wpList_store1 rfl 32 (.tmp 91) (.tmp 89) rfl (by kernel_rfl) rb 0 34 [(.slice (some ⟨b, 0, none⟩) n cap)] (.slice sa9 sn9 sc9) rfl rfl HRb9.out rfl (by simp) ?_; intro w10 hh10 hm10; have HH10 := Lib.hid hh10; have HM10 := Lib.hid hm10; clear hh10 hm10))
      go_ret2
      have hq := AddPost.yes HT'.out HM6.out HK.out HE.out HInv2.out HR6.out HM9.out HFr9.out HEs.out HOwn9.out HH10.out HM10.out
      first | exact hq | (rw [← HN.out] at hq; exact hq)


end Go.Proofs.Ytknkifanpppglaa

/- Walks of the reference: Add. -/
namespace Go.Proofs.Ytknkifanpppglaa
open Go.RowKit

set_option maxRecDepth 100000 in
set_option maxHeartbeats 4000000 in
theorem radd_any (w : World) (rb : Nat) (lv : Value) (l : List Ck) (d : List Int) (p : Int) (u : U3) (t : Int) (hd16 : d.length = 16) (h : RTab w rb lv l) :
    Calls Try.prog 54 #[.pointer (some ⟨rb, 0, none⟩), digV d, .int .u32 p, .agg #[.int .i64 u.row, .int .i64 u.group, .int .i64 u.unit], .int .i64 t] w (AddPost rb lv l d p u t w) := by
  by_cases hlast : u.ok = true ∧ tenB t = true ∧ atU l u = none ∧ l.length < 65536
  · obtain ⟨hok, htn, hat, hlt6⟩ := hlast
    have hks := slot_le l
    by_cases hA : slot l < l.length
    · exact radd_A w rb lv l d p u t hd16 h hok htn hat hlt6 hA
    · have hkl : slot l = l.length := by omega
      obtain ⟨ad, cap, hlv, _⟩ := h.open.2.2.2
      have hlc : l.length ≤ cap := h.capLe hlv
      have hown : ∃ es, Own w 45 23 lv es := by obtain ⟨cs, _, a2, _⟩ := h; exact ⟨_, a2.1⟩
      obtain ⟨es, hown⟩ := hown
      subst hlv
      cases ad with
      | none =>
        obtain ⟨h1, h2⟩ := nil_only hown
        exact radd_B w rb _ l d p u t hd16 h hok htn hat hlt6 (by rw [h1, h2])
      | some a =>
        obtain ⟨b, rfl⟩ := own_addr hown
        by_cases hcap : cap = l.length
        · exact radd_C w rb _ l d p u t hd16 h hok htn hat hlt6 hkl ⟨b, by rw [hcap]⟩
        · exact radd_D w rb _ l d p u t hd16 h hok htn hat hlt6 hkl ⟨b, cap, rfl, by omega⟩
  have HT := Lib.hid h
  have hc0 := h.open.1
  have hrbs := h.parts.2.2.1
  have hinv := h.open.2.2.1
  have hlen := inv_len hinv
  have HInv := Lib.hid hinv
  obtain ⟨dc, hdc⟩ : ∃ dc, dc = (d.map (Value.int .u8)).toArray := ⟨_, rfl⟩
  have hdv : digV d = .agg dc := by (rw [hdc]; try rfl)
  obtain ⟨w1, hw1⟩ : ∃ w1, w1 = (w.alloc (.cells dc 42)).alloc (.cells #[.int .i64 u.row, .int .i64 u.group, .int .i64 u.unit] 26) := ⟨_, rfl⟩
  obtain ⟨hm1, hdr, hun, hs1⟩ := radd_alloc (hdc ▸ hw1)
  have HW1 := Lib.hid hw1
  have HDc := Lib.hid hdc
  have c01 := hm1.cell hc0 (by simp)
  rw [hdv]
  clear hw1 hdc hdv h hinv
  go_enter Try.func54, Try.ntmps54
  go_wp2_with fail
  rw [← HW1.out]
  clear HW1 HDc hc0
  cases hok : u.ok with
  | false =>
    have HOk := Lib.hid hok
    have HE : Hid (addL l d p u t = (l, 0, 1)) := Lib.hid (by simp [addL, hok])
    clear hok
    go_wp2_with (first | (refine wpList_load_at rfl 26 (.tmp 8) rfl _ Try.underlying26 rfl 3 info26 (w.heap.size + 1) 0 u.cells rfl hun rfl ?_) | (go_at_call 33; refine (rvalid_any u _).mono ?_; rintro e w2 ⟨rfl, hmv⟩; rw [HOk.out]; have hun2 := hun.mod hmv (by simp)))
    go_ret2
    exact AddPost.no HT.out HE.out (hm1.trans_nil hmv)
  | true =>
    have HOk := Lib.hid hok
    cases htn : tenB t with
    | false =>
      have HTn := Lib.hid htn
      have HE : Hid (addL l d p u t = (l, 0, 1)) := Lib.hid (by simp [addL, hok, htn])
      clear hok htn
      go_wp2_with (first | (refine wpList_load_at rfl 26 (.tmp 8) rfl _ Try.underlying26 rfl 3 info26 (w.heap.size + 1) 0 u.cells rfl hun rfl ?_) | (go_at_call 33; refine (rvalid_any u _).mono ?_; rintro e w2 ⟨rfl, hmv⟩; rw [HOk.out]; have hun2 := hun.mod hmv (by simp)) | (go_at_call 103; refine (rtenant_any t _).mono ?_; rintro e w3 ⟨rfl, rfl⟩; rw [HTn.out]))
      go_ret2
      exact AddPost.no HT.out HE.out (hm1.trans_nil hmv)
    | true =>
      have HTn := Lib.hid htn
      cases hat : atU l u with
      | some j =>
        have HAt := Lib.hid hat
        have HE : Hid (addL l d p u t = (l, 0, 20)) := Lib.hid (by simp [addL, hok, htn, hat])
        clear hok htn hat
        go_wp2_with (first | (refine wpList_load_at rfl 26 (.tmp 8) rfl _ Try.underlying26 rfl 3 info26 (w.heap.size + 1) 0 u.cells rfl hun rfl ?_) | (go_at_call 33; refine (rvalid_any u _).mono ?_; rintro e w2 ⟨rfl, hmv⟩; rw [HOk.out]; have hun2 := hun.mod hmv (by simp)) | (refine wpList_load_at rfl 26 (.tmp 8) rfl _ Try.underlying26 rfl 3 info26 (w.heap.size + 1) 0 u.cells rfl hun2 rfl ?_) | (go_at_call 103; refine (rtenant_any t _).mono ?_; rintro e w3 ⟨rfl, rfl⟩; rw [HTn.out]) | ((go_at_call 19; refine (rat_any _ rb _ l u (HT.out.mod0 (hm1.trans_nil hmv))).mono ?_; rintro e w4 ⟨rfl, hma⟩); rw [HAt.out]; simp only [Option.isSome_some, Option.getD_some]))
        go_ret2
        exact AddPost.no HT.out HE.out ((hm1.trans_nil hmv).trans_nil hma)
      | none =>
        have HAt := Lib.hid hat
        by_cases hbig : 65536 ≤ l.length
        · have HE : Hid (addL l d p u t = (l, 0, 2)) := Lib.hid (by simp [addL, hok, htn, hat, hbig])
          obtain ⟨ad, cap, rfl, _⟩ := HT.out.open.2.2.2
          have hbi : (65536 : Int) ≤ (l.length : Int) := by omega
          clear hok htn hat hbig hlen
          go_wp2_with (first | (refine wpList_load_at rfl 26 (.tmp 8) rfl _ Try.underlying26 rfl 3 info26 (w.heap.size + 1) 0 u.cells rfl hun rfl ?_) | (go_at_call 33; refine (rvalid_any u _).mono ?_; rintro e w2 ⟨rfl, hmv⟩; rw [HOk.out]; have hun2 := hun.mod hmv (by simp)) | (refine wpList_load_at rfl 26 (.tmp 8) rfl _ Try.underlying26 rfl 3 info26 (w.heap.size + 1) 0 u.cells rfl hun2 rfl ?_) | (go_at_call 103; refine (rtenant_any t _).mono ?_; rintro e w3 ⟨rfl, rfl⟩; rw [HTn.out]) | ((go_at_call 19; refine (rat_any _ rb _ l u (HT.out.mod0 (hm1.trans_nil hmv))).mono ?_; rintro e w4 ⟨rfl, hma⟩); rw [HAt.out]; simp only [Option.isSome_none, Option.getD_none]; have c04 := hma.cell (hmv.cell c01 (by simp)) (by simp)))
          go_ret2
          exact AddPost.no HT.out HE.out ((hm1.trans_nil hmv).trans_nil hma)
        · exact absurd ⟨hok, htn, hat, by omega⟩ hlast

end Go.Proofs.Ytknkifanpppglaa

/- Walks of the reference: Do. -/
namespace Go.Proofs.Ytknkifanpppglaa
open Go.RowKit

theorem RPostN.start {rb : Nat} {lv : Value} {l' : List Ck} {v : Value} {w w1 : World} {e : Ending} {w' : World} (h : RPostN rb lv l' v w1 e w') (hm : Mod [] w w1) : RPostN rb lv l' v w e w' := by
  obtain ⟨lv', h1, h2, h3, h4⟩ := h
  refine ⟨lv', h1, h2, hm.nil.trans h3 (fun x hx => .inl hx), fun g hg => ?_⟩
  rcases h4 g hg with h5 | h5
  · exact .inl h5
  · exact .inr (by have := hm.size; omega)

theorem RTab.fresh {w : World} {rb : Nat} {lv : Value} {l : List Ck} (h : RTab w rb lv l) {x : Nat} (hx : w.heap.size ≤ x) : x ∉ rfoot rb lv := by
  obtain ⟨p1, p2, p3, p4⟩ := h.parts
  intro hm
  simp only [rfoot, List.mem_cons, Option.mem_toList] at hm
  rcases hm with rfl | hm
  · omega
  · have := p4 x hm; omega

def RDoPost (rb : Nat) (lv : Value) (l : List Ck) (o : Opn) (w : World) (e : Ending) (w' : World) : Prop :=
  RPostN rb lv (opL l o).1 (.tuple #[.int .i64 (opL l o).2.1, .int .i64 (opL l o).2.2]) w e w'

set_option maxRecDepth 100000 in
set_option maxHeartbeats 1000000 in
theorem rdo_add (w : World) (rb : Nat) (lv : Value) (l : List Ck) (o : Opn) (h : RTab w rb lv l) (hk : o.kind = 1) :
    Calls Try.prog 15 #[.pointer (some ⟨rb, 0, none⟩), o.val] w (RDoPost rb lv l o w) := by
  have HT := Lib.hid h
  have hnf := h.fresh (Nat.le_refl _)
  have HNF := Lib.hid hnf
  clear hnf
  have e1 : opL l o = addL l (digOf o.d) o.print o.pos o.tenant := by simp [opL, hk]
  unfold RDoPost
  rw [e1]
  obtain ⟨kind, id, tenant, n, pos, d, print⟩ := o
  simp only at hk
  subst hk
  unfold Opn.val
  clear h e1
  go_enter Try.func15, Try.ntmps15
  go_wp2
  obtain ⟨w1, hw1⟩ : ∃ w1, w1 = w.alloc (.cells #[.int .i64 1, .int .i64 id, .int .i64 tenant, .int .i64 n, .int .i64 pos.row, .int .i64 pos.group, .int .i64 pos.unit, .int .u8 d, .int .u32 print] 37) := ⟨_, rfl⟩
  have hm1 : Mod [] w w1 := by rw [hw1]; exact (Mod.refl _ _).alloc _
  have hr : Row w1 w.heap.size 0 [.int .i64 1, .int .i64 id, .int .i64 tenant, .int .i64 n, .int .i64 pos.row, .int .i64 pos.group, .int .i64 pos.unit, .int .u8 d, .int .u32 print] := by rw [hw1]; exact Row.of_heap (heap_alloc_at w _)
  have c2 := hr.at 2 _ rfl
  have c4 := hr.at 4 _ rfl
  have c5 := hr.at 5 _ rfl
  have c6 := hr.at 6 _ rfl
  have c7 := hr.at 7 _ rfl
  have c8 := hr.at 8 _ rfl
  rw [Nat.zero_add] at c2 c4 c5 c6 c7 c8
  rw [← hw1]
  clear hw1 hr
  go_region_held3 (fun w' => w'.cell? ⟨w.heap.size, 2, none⟩ = some (.int .i64 tenant) ∧ w'.cell? ⟨w.heap.size, 4, none⟩ = some (.int .i64 pos.row) ∧ w'.cell? ⟨w.heap.size, 5, none⟩ = some (.int .i64 pos.group) ∧ w'.cell? ⟨w.heap.size, 6, none⟩ = some (.int .i64 pos.unit) ∧ w'.cell? ⟨w.heap.size, 7, none⟩ = some (.int .u8 d) ∧ w'.cell? ⟨w.heap.size, 8, none⟩ = some (.int .u32 print))
    (first | exact ⟨c2, c4, c5, c6, c7, c8⟩ | exact ⟨hmd.cell c2 (by simp), hmd.cell c4 (by simp), hmd.cell c5 (by simp), hmd.cell c6 (by simp), hmd.cell c7 (by simp), hmd.cell c8 (by simp)⟩ | exact ⟨hm3.cell (hmd.cell c2 (by simp)) HNF.out, hm3.cell (hmd.cell c4 (by simp)) HNF.out, hm3.cell (hmd.cell c5 (by simp)) HNF.out, hm3.cell (hmd.cell c6 (by simp)) HNF.out, hm3.cell (hmd.cell c7 (by simp)) HNF.out, hm3.cell (hmd.cell c8 (by simp)) HNF.out⟩)
    (first | (go_at_call 25; refine (digest_any d _).mono ?_; rintro e w2 ⟨rfl, hmd⟩) | (go_at_call 54; refine (radd_any w2 rb lv l (digOf d) print pos tenant (by simp [digOf]) (HT.out.mod0 (hm1.trans_nil ((((Mod.refl [] w1).drew).trans_nil hmd))))).mono ?_; rintro e w3 ⟨lv', rfl, hT3, hm3, ho3⟩))
  go_wp2
  go_ret2
  exact RPostN.start ⟨lv', rfl, hT3, hm3, ho3⟩ (hm1.trans_nil (((Mod.refl [] w1).drew).trans_nil hmd))


set_option maxRecDepth 100000 in
set_option maxHeartbeats 1000000 in
theorem rdo_refer (w : World) (rb : Nat) (lv : Value) (l : List Ck) (o : Opn) (h : RTab w rb lv l) (hk : o.kind = 2) :
    Calls Try.prog 15 #[.pointer (some ⟨rb, 0, none⟩), o.val] w (RDoPost rb lv l o w) := by
  have HT := Lib.hid h
  have e1 : opL l o = ((referL l o.id o.tenant o.n).1, 0, (referL l o.id o.tenant o.n).2) := by simp [opL, hk]
  unfold RDoPost
  rw [e1]
  obtain ⟨kind, id, tenant, n, pos, d, print⟩ := o
  simp only at hk
  subst hk
  unfold Opn.val
  clear h e1
  go_enter Try.func15, Try.ntmps15
  go_wp2_with (go_at_call 55; refine (rrefer_any _ rb lv l id tenant n (HT.out.mod0 ((Mod.refl _ _).alloc _))).mono ?_; rintro e w3 hw3; obtain ⟨lv', rfl, hT3, hm3, ho3⟩ := RPost.weak hw3)
  go_ret2
  exact RPostN.start ⟨lv', rfl, hT3, hm3, ho3⟩ ((Mod.refl _ _).alloc _)

set_option maxRecDepth 100000 in
set_option maxHeartbeats 1000000 in
theorem rdo_unrefer (w : World) (rb : Nat) (lv : Value) (l : List Ck) (o : Opn) (h : RTab w rb lv l) (hk : o.kind = 3) :
    Calls Try.prog 15 #[.pointer (some ⟨rb, 0, none⟩), o.val] w (RDoPost rb lv l o w) := by
  have HT := Lib.hid h
  have e1 : opL l o = ((unreferL l o.id o.tenant o.n).1, (if (unreferL l o.id o.tenant o.n).2.1 then 1 else 0), (unreferL l o.id o.tenant o.n).2.2) := by simp [opL, hk]
  unfold RDoPost
  rw [e1]
  obtain ⟨kind, id, tenant, n, pos, d, print⟩ := o
  simp only at hk
  subst hk
  unfold Opn.val
  simp only
  cases hu : (unreferL l id tenant n).2.1
  all_goals
    have HU := Lib.hid hu
    simp only [Bool.false_eq_true, if_true, if_false]
    clear h e1 hu
    go_enter Try.func15, Try.ntmps15
    go_wp2_with (go_at_call 56; refine (runrefer_any _ rb lv l id tenant n (HT.out.mod0 ((Mod.refl _ _).alloc _))).mono ?_; rintro e w3 ⟨lv', rfl, hT3, hm3, ho3⟩; rw [HU.out])
    go_ret2
    exact RPostN.start ⟨lv', rfl, hT3, hm3, ho3⟩ ((Mod.refl _ _).alloc _)

set_option maxRecDepth 100000 in
set_option maxHeartbeats 1000000 in
theorem rdo_move (w : World) (rb : Nat) (lv : Value) (l : List Ck) (o : Opn) (h : RTab w rb lv l) (hk : o.kind = 4) :
    Calls Try.prog 15 #[.pointer (some ⟨rb, 0, none⟩), o.val] w (RDoPost rb lv l o w) := by
  have HT := Lib.hid h
  have e1 : opL l o = ((moveL l o.id o.pos).1, 0, (moveL l o.id o.pos).2) := by simp [opL, hk]
  unfold RDoPost
  rw [e1]
  obtain ⟨kind, id, tenant, n, pos, d, print⟩ := o
  simp only at hk
  subst hk
  unfold Opn.val
  clear h e1
  go_enter Try.func15, Try.ntmps15
  go_wp2_with (go_at_call 57; refine (rmove_any _ rb lv l id pos (HT.out.mod0 ((Mod.refl _ _).alloc _))).mono ?_; rintro e w3 hw3; obtain ⟨lv', rfl, hT3, hm3, ho3⟩ := RPost.weak hw3)
  go_ret2
  exact RPostN.start ⟨lv', rfl, hT3, hm3, ho3⟩ ((Mod.refl _ _).alloc _)

set_option maxRecDepth 100000 in
set_option maxHeartbeats 1000000 in
theorem rdo_lose (w : World) (rb : Nat) (lv : Value) (l : List Ck) (o : Opn) (h : RTab w rb lv l) (hk : o.kind = 5) :
    Calls Try.prog 15 #[.pointer (some ⟨rb, 0, none⟩), o.val] w (RDoPost rb lv l o w) := by
  have HT := Lib.hid h
  have e1 : opL l o = ((loseL l o.id).1, 0, (loseL l o.id).2) := by simp [opL, hk]
  unfold RDoPost
  rw [e1]
  obtain ⟨kind, id, tenant, n, pos, d, print⟩ := o
  simp only at hk
  subst hk
  unfold Opn.val
  clear h e1
  go_enter Try.func15, Try.ntmps15
  go_wp2_with (go_at_call 58; refine (rlose_any _ rb lv l id (HT.out.mod0 ((Mod.refl _ _).alloc _))).mono ?_; rintro e w3 hw3; obtain ⟨lv', rfl, hT3, hm3, ho3⟩ := RPost.weak hw3)
  go_ret2
  exact RPostN.start ⟨lv', rfl, hT3, hm3, ho3⟩ ((Mod.refl _ _).alloc _)

set_option maxRecDepth 100000 in
set_option maxHeartbeats 1000000 in
theorem rdo_none (w : World) (rb : Nat) (lv : Value) (l : List Ck) (o : Opn) (h : RTab w rb lv l) (h1 : ¬ o.kind = 1) (h2 : ¬ o.kind = 2) (h3 : ¬ o.kind = 3) (h4 : ¬ o.kind = 4) (h5 : ¬ o.kind = 5) :
    Calls Try.prog 15 #[.pointer (some ⟨rb, 0, none⟩), o.val] w (RDoPost rb lv l o w) := by
  have HT := Lib.hid h
  have e1 : opL l o = (l, 0, 0) := by simp [opL, h1, h2, h3, h4, h5]
  unfold RDoPost
  rw [e1]
  obtain ⟨kind, id, tenant, n, pos, d, print⟩ := o
  simp only at h1 h2 h3 h4 h5
  have k1 : (kind == 1) = false := by simpa using h1
  have k2 : (kind == 2) = false := by simpa using h2
  have k3 : (kind == 3) = false := by simpa using h3
  have k4 : (kind == 4) = false := by simpa using h4
  have k5 : (kind == 5) = false := by simpa using h5
  unfold Opn.val
  clear h e1 h1 h2 h3 h4 h5
  go_enter Try.func15, Try.ntmps15
  go_wp2
  go_ret2
  exact ⟨lv, rfl, HT.out.mod0 ((Mod.refl _ _).alloc _), ((Mod.refl _ _).alloc _).nil, fun g hg => .inl hg⟩

theorem rdo_any (w : World) (rb : Nat) (lv : Value) (l : List Ck) (o : Opn) (h : RTab w rb lv l) :
    Calls Try.prog 15 #[.pointer (some ⟨rb, 0, none⟩), o.val] w (RDoPost rb lv l o w) := by
  by_cases h1 : o.kind = 1
  · exact rdo_add w rb lv l o h h1
  by_cases h2 : o.kind = 2
  · exact rdo_refer w rb lv l o h h2
  by_cases h3 : o.kind = 3
  · exact rdo_unrefer w rb lv l o h h3
  by_cases h4 : o.kind = 4
  · exact rdo_move w rb lv l o h h4
  by_cases h5 : o.kind = 5
  · exact rdo_lose w rb lv l o h h5
  exact rdo_none w rb lv l o h h1 h2 h3 h4 h5

end Go.Proofs.Ytknkifanpppglaa

/- The program's table and the reference's on one heap; the law's same. -/
namespace Go.Proofs.Ytknkifanpppglaa
open Go.RowKit

/-- the program's table and the reference's table, both made by the call, with the same chunks -/
structure TR (w0 w : World) (tb mb : Nat) (lv : Value) (rb : Nat) (rv : Value) (l : List Ck) : Prop where
  t : Tab w tb mb lv l
  r : RTab w rb rv l
  dis : ∀ x ∈ rfoot rb rv, x ∉ foot tb mb lv
  mod : Mod [] w0 w
  t0 : ∀ x ∈ foot tb mb lv, w0.heap.size ≤ x
  r0 : ∀ x ∈ rfoot rb rv, w0.heap.size ≤ x

/-- two tables that may differ for a while -/
structure TR2 (w0 w : World) (tb mb : Nat) (lv : Value) (l : List Ck) (rb : Nat) (rv : Value) (m : List Ck) : Prop where
  t : Tab w tb mb lv l
  r : RTab w rb rv m
  dis : ∀ x ∈ rfoot rb rv, x ∉ foot tb mb lv
  mod : Mod [] w0 w
  t0 : ∀ x ∈ foot tb mb lv, w0.heap.size ≤ x
  r0 : ∀ x ∈ rfoot rb rv, w0.heap.size ≤ x

section
variable {w0 w w' : World} {tb mb rb : Nat} {lv rv : Value} {l m : List Ck}

theorem rfoot_lt (h : RTab w rb rv m) : ∀ x ∈ rfoot rb rv, x < w.heap.size := by
  obtain ⟨p1, p2, p3, p4⟩ := h.parts
  intro x hm
  simp only [rfoot, List.mem_cons, Option.mem_toList] at hm
  rcases hm with rfl | hm
  · exact p3
  · exact p4 x hm

theorem TR2.mod0 (h : TR2 w0 w tb mb lv l rb rv m) (hm : Mod [] w w') : TR2 w0 w' tb mb lv l rb rv m := ⟨h.t.mod0 hm, h.r.mod0 hm, h.dis, h.mod.trans_nil hm, h.t0, h.r0⟩

theorem TR2.one (h : TR2 w0 w tb mb lv l rb rv l) : TR w0 w tb mb lv rb rv l := ⟨h.t, h.r, h.dis, h.mod, h.t0, h.r0⟩
theorem TR.two (h : TR w0 w tb mb lv rb rv l) : TR2 w0 w tb mb lv l rb rv l := ⟨h.t, h.r, h.dis, h.mod, h.t0, h.r0⟩
theorem TR.mod0 (h : TR w0 w tb mb lv rb rv l) (hm : Mod [] w w') : TR w0 w' tb mb lv rb rv l := (h.two.mod0 hm).one

/-- an operation on the program's table -/
theorem TR2.opT {l' : List Ck} {v : Value} {e : Ending} (h : TR2 w0 w tb mb lv l rb rv m) (hp : TabPost tb mb lv l' v w e w') : e = .returned v ∧ ∃ lv', TR2 w0 w' tb mb lv' l' rb rv m := by
  obtain ⟨lv', h1, h2, h3, h4⟩ := hp
  have hs := h3.size
  have hs0 := h.mod.size
  have hr := rfoot_lt h.r
  have hn : ∀ x ∈ foot tb mb lv', x ∈ foot tb mb lv ∨ w.heap.size ≤ x := by
    intro x hx
    simp only [foot, List.mem_cons, Option.mem_toList] at hx ⊢
    rcases hx with rfl | rfl | hx
    · exact .inl (.inl rfl)
    · exact .inl (.inr (.inl rfl))
    · rcases h4 with h4 | ⟨g, h4, h5⟩
      · rw [h4] at hx; exact .inl (.inr (.inr hx))
      · rw [h4] at hx; simp at hx; subst hx; exact .inr h5
  refine ⟨h1, lv', h2, h.r.mod h3 h.t.parts.2.2.1 (h.dis _ (by simp [rfoot])) (fun b hb => h.dis b (by simp [rfoot, hb])), fun x hx hy => ?_, h.mod.trans h3 (fun x hx => .inr (h.t0 x hx)), fun x hx => ?_, h.r0⟩
  · rcases hn x hy with h5 | h5
    · exact h.dis x hx h5
    · have := hr x hx; omega
  · rcases hn x hx with h5 | h5
    · exact h.t0 x h5
    · omega

/-- an operation on the reference's table -/
theorem TR2.opR {m' : List Ck} {v : Value} {e : Ending} (h : TR2 w0 w tb mb lv l rb rv m) (hp : RPostN rb rv m' v w e w') : e = .returned v ∧ ∃ rv', TR2 w0 w' tb mb lv l rb rv' m' := by
  obtain ⟨rv', h1, h2, h3, h4⟩ := hp
  have hs := h3.size
  have hs0 := h.mod.size
  have ht := foot_lt h.t
  have hn : ∀ x ∈ rfoot rb rv', x ∈ rfoot rb rv ∨ w.heap.size ≤ x := by
    intro x hx
    simp only [rfoot, List.mem_cons, Option.mem_toList] at hx ⊢
    rcases hx with rfl | hx
    · exact .inl (.inl rfl)
    · rcases h4 x hx with h5 | h5
      · exact .inl (.inr h5)
      · exact .inr h5
  have hd2 : ∀ x ∈ foot tb mb lv, x ∉ rfoot rb rv := fun x hx hy => h.dis x hy hx
  refine ⟨h1, rv', h.t.mod h3 h.r.parts.2.1 (hd2 _ (by simp [foot])) (hd2 _ (by simp [foot])) (fun b hb => hd2 b (by simp [foot, hb])), h2, fun x hx hy => ?_, h.mod.trans h3 (fun x hx => .inr (h.r0 x hx)), h.t0, fun x hx => ?_⟩
  · rcases hn x hx with h5 | h5
    · exact h.dis x h5 hy
    · have := ht x hy; omega
  · rcases hn x hx with h5 | h5
    · exact h.r0 x h5
    · omega

/-- an empty table of the reference is made beside a table of the program -/
theorem TR2.start {K : List Nat} (h : OT w0 w tb mb lv l K) : TR2 w0 (w.alloc (.cells #[nilV] 34)) tb mb lv l w.heap.size nilV [] := by
  have hm : Mod [] w (w.alloc (.cells #[nilV] 34)) := (Mod.refl _ _).alloc _
  have ht := foot_lt h.tab
  have hs0 := h.mod.size
  refine ⟨h.tab.mod0 hm, ⟨[], heap_alloc_at w _, ⟨Own.nil _ _ _, fun p hp => by simp at hp⟩, rfl, ⟨List.Pairwise.nil, fun c hc => by simp at hc, List.Pairwise.nil⟩⟩, fun x hx hy => ?_, h.mod.trans_nil hm, fun x hx => ?_, fun x hx => ?_⟩
  · simp [rfoot, nilV, Value.ownBlock] at hx
    subst hx
    have := ht _ hy; omega
  · simp only [foot, List.mem_cons, Option.mem_toList] at hx
    rcases hx with rfl | rfl | hx
    · exact h.tb0
    · exact h.mb0
    · exact h.lv0 x hx
  · simp [rfoot, nilV, Value.ownBlock] at hx
    subst hx; exact hs0
end

/-- what Get returns, in one form -/
theorem GetPost.form {l : List Ck} {id : Int} {w : World} {e : Ending} {w' : World} (h : GetPost l id w e w') :
    ∃ rv, ((getC l id).getD zeroCk).dig.length = 16 ∧ e = .returned (.tuple #[.agg (((getC l id).getD zeroCk).cells rv).toArray, .bool (getC l id).isSome]) ∧ Refs w' rv ((getC l id).getD zeroCk).refs ∧ Mod [] w w' := by
  obtain ⟨hm, h⟩ := h
  rcases h with ⟨h1, rfl⟩ | ⟨c, rv, h1, h2, rfl, h3, _⟩
  · rw [h1]; exact ⟨nilV, rfl, rfl, Own.nil _ _ _, hm⟩
  · rw [h1]; exact ⟨rv, h2, rfl, h3, hm⟩

theorem lt_row {w : World} {b : Nat} {o : Opn} (h : Row w b 0 o.cells) : b < w.heap.size := Go.block_lt_of_cell (h 0 _ rfl)

theorem Ints.slice {w : World} {v : Value} {xs : List Int} (h : Ints w v xs) : ∃ a n c, v = .slice a n c := Own.isSlice h

set_option maxRecDepth 100000 in
set_option maxHeartbeats 4000000 in
theorem sameT_any (w : World) (tb mb rb : Nat) (lv rv : Value) (l : List Ck) (h : Tab w tb mb lv l) (hr : RTab w rb rv l) :
    Calls Try.prog 31 #[.pointer (some ⟨tb, 0, none⟩), .pointer (some ⟨rb, 0, none⟩)] w (BoolPost true w) := by
  obtain ⟨c0, hl, hinv, a, cap, rfl, hrows⟩ := hr.open
  obtain ⟨n, hn⟩ : ∃ n, l.length = n := ⟨_, rfl⟩
  have HT := Lib.hid h
  have HR := Lib.hid hr
  have HInv := Lib.hid hinv
  rw [hn] at c0 hl
  have HN := Lib.hid hn
  have HRows := Lib.hid hrows
  clear h hr hinv hn hrows
  go_enter Try.func31, Try.ntmps31
  go_wp2_with fail
  go_region_held3 (fun w' => w'.cell? ⟨rb, 0, none⟩ = some (.slice a n cap)) (first | go_keep | exact hm2.cell c0 (by simp) | exact hm3.cell (hm2.cell c0 (by simp)) (by simp) | exact hm4.cell (hm3.cell (hm2.cell c0 (by simp)) (by simp)) (by simp))
    (first | (go_at_call 36; refine (len_any _ tb mb lv l (HT.out.mod0 ((Mod.refl [] w).drew))).mono ?_; rintro e wl ⟨rfl, rfl⟩; rw [HN.out]) | (go_at_call 32; refine (ids_any _ tb mb lv l (HT.out.mod0 ((Mod.refl [] w).drew))).mono ?_; rintro e w2 ⟨v2, rfl, hv2, hm2, _⟩; obtain ⟨a2, n2, c2, rfl⟩ := hv2.slice) | (go_at_call 65; refine (rids_any _ rb _ l ((HR.out.mod0 ((Mod.refl [] w).drew)).mod0 hm2)).mono ?_; rintro e w3 ⟨v3, rfl, hv3, hm3, _⟩; obtain ⟨a3, n3, c3, rfl⟩ := hv3.slice) | (go_at_call 21; refine (same_any _ _ _ (l.map (·.id)) (l.map (·.id)) (hv2.mod0 hm3) hv3).mono ?_; rintro e w4 ⟨rfl, hm4⟩; rw [decide_eq_true rfl]))
  have hm14 : Mod [] w w4 := ((((Mod.refl [] w).drew).trans_nil hm2).trans_nil hm3).trans_nil hm4
  have c04 := hm14.cell c0 (by simp)
  have HM14 := Lib.hid hm14
  clear hm14 hm2 hm3 hm4 hv2 hv3 c0
  go_wp2_with fail
  go_loopw [34] (fun s34 wr => ∃ k : Nat, k ≤ n ∧ s34 = .int .i64 k ∧ Hid (Mod [] w wr)) (fun s34 _ => n - (intOf s34).toNat)
  case atStart => exact ⟨0, by omega, rfl, HM14⟩
  case round =>
    obtain ⟨k, hk, rfl, HMr⟩ := hrel
    by_cases hlt : k < n
    · obtain ⟨c, hc⟩ : ∃ c, l[k]? = some c := ⟨_, List.getElem?_eq_getElem (by have := HN.out; omega)⟩
      obtain ⟨b, rvc, rfl, hrow, hrf, hd, _⟩ := HRows.out k c hc
      have hg := getC_at HInv.out hc
      have hrow1 := hrow.mod HMr.out (by simp)
      have HRF := Lib.hid (hrf.mod0 HMr.out)
      have HD := Lib.hid hd
      have HG := Lib.hid hg
      obtain ⟨ac, capc, rfl⟩ := hrf.sliceLen
      have hone : (Value.slice ac c.refs.length capc).oneCell' = true := rfl
      clear hc hg hrow hrf hd c04
      go_wp2_with (first | (refine wpList_load_at rfl 45 (.tmp 36) rfl _ Try.underlying45 rfl 23 info45 b (k * 23) (c.cells (.slice ac c.refs.length capc)) rfl hrow1 (by rw [Ck.cells_len, HD.out]) ?_) | (refine wpList_store_at rfl 45 (.tmp 6) (.tmp 37) rfl 23 info45 wr.heap.size 0 45 zeroCells (c.cells (.slice ac c.refs.length capc)) rfl rfl (heap_alloc_at _ _) (by rw [Ck.cells_len, HD.out]) (oneCell_ck hone) (by simp [zeroCells, Ck.cells_len, HD.out]) ?_; intro w5 hhw5 hsw5; have hmw5 := ((Mod.refl [] wr).alloc (.cells zeroCells.toArray 45)).trans hsw5 (by simp); rw [splice_all _ _ (by simp [zeroCells, Ck.cells_len, HD.out])] at hhw5; have roww5 := Row.of_heap hhw5; have HHw5 := Lib.hid hhw5; clear hhw5; have d0 : w5.cell? ⟨wr.heap.size, 0, none⟩ = some (.int .i64 c.id) := roww5 0 _ rfl))
      refine (get_any _ tb mb lv l c.id (HT.out.mod0 (HMr.out.trans_nil hmw5))).mono ?_
      rintro e w6 ⟨hm6, hg6⟩
      rw [HG.out] at hg6
      obtain ⟨ck, rv6, hck, hd6, rfl, hrf6, _⟩ : ∃ d rv, some c = some d ∧ d.dig.length = 16 ∧ e = .returned (.tuple #[.agg (d.cells rv).toArray, .bool true]) ∧ Refs w6 rv d.refs ∧ ∀ g, rv.ownBlock = some g → w5.heap.size ≤ g := by
        rcases hg6 with ⟨h, _⟩ | h
        · cases h
        · exact h
      cases hck
      obtain ⟨a6, cap6, rfl⟩ := hrf6.sliceLen
      have hone6 : (Value.slice a6 c.refs.length cap6).oneCell' = true := rfl
      have hrow6 := roww5.mod hm6 (by simp)
      have HRF6 := Lib.hid hrf6
      have HM6 := Lib.hid ((HMr.out.trans_nil hmw5).trans_nil hm6)
      have HM56 := Lib.hid (hmw5.trans_nil hm6)
      clear hg6 hd6 hrf6 hm6 d0 roww5 HHw5 hsw5 hrow1
      go_wp2_with (first | (refine wpList_store_at rfl 45 (.tmp 7) (.tmp 43) rfl 23 info45 w6.heap.size 0 45 zeroCells (c.cells (.slice a6 c.refs.length cap6)) rfl rfl (heap_alloc_at _ _) (by rw [Ck.cells_len, HD.out]) (oneCell_ck hone6) (by simp [zeroCells, Ck.cells_len, HD.out]) ?_; intro w7 hhw7 hsw7; have hmw7 := ((Mod.refl [] w6).alloc (.cells zeroCells.toArray 45)).trans hsw7 (by simp); rw [splice_all _ _ (by simp [zeroCells, Ck.cells_len, HD.out])] at hhw7; have roww7 := Row.of_heap hhw7; have HHw7 := Lib.hid hhw7; clear hhw7; have hrow67 := hrow6.mod hmw7 (by simp)) | (refine wpList_load_at rfl 45 (.tmp 7) rfl _ Try.underlying45 rfl 23 info45 w6.heap.size (0) (c.cells (.slice a6 c.refs.length cap6)) rfl roww7 (by rw [Ck.cells_len, HD.out]) ?_) | (refine wpList_load_at rfl 45 (.tmp 6) rfl _ Try.underlying45 rfl 23 info45 wr.heap.size (0) (c.cells (.slice ac c.refs.length capc)) rfl hrow67 (by rw [Ck.cells_len, HD.out]) ?_) | (go_at_call 20; refine (sameChunk_any _ c c (.slice a6 c.refs.length cap6) (.slice ac c.refs.length capc) HD.out HD.out (HRF6.out.mod0 hmw7) ((HRF.out.mod0 HM56.out).mod0 hmw7)).mono ?_; rintro e w8 ⟨rfl, hm8⟩; rw [decide_eq_true rfl]))
      go_roundw
      case rel => exact ⟨k + 1, by omega, by go_num, Lib.hid ((HM6.out.trans_nil hmw7).trans_nil hm8)⟩
      case measure => simp [intOf]; omega
    · obtain rfl : n = k := by omega
      go_wp2
      go_ret
      exact ⟨rfl, HMr.out⟩

end Go.Proofs.Ytknkifanpppglaa
