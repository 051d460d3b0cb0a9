/- Walks: Move. -/
import Derived.Test.YtknkifanpppglaaW9
namespace Go.Proofs.Ytknkifanpppglaa
open Go.RowKit

set_option maxRecDepth 100000 in
set_option maxHeartbeats 2000000 in
theorem move_any (w : World) (tb mb : Nat) (lv : Value) (l : List Ck) (id : Int) (u : U3) (h : Tab w tb mb lv l) :
    Calls Try.prog 35 #[.pointer (some ⟨tb, 0, none⟩), .int .i64 id, .agg #[.int .i64 u.row, .int .i64 u.group, .int .i64 u.unit]] w (TabPost tb mb lv (moveL l id u).1 (.int .i64 (moveL l id u).2) w) := by
  have HT := Lib.hid h
  have hc1 := h.open.2.1
  have htb := Go.block_lt_of_cell hc1
  clear h
  go_enter Try.func35, Try.ntmps35
  go_wp2_with fail
  have hm0 : Mod [] w (w.alloc (.cells #[.int .i64 u.row, .int .i64 u.group, .int .i64 u.unit] 26)) := (Mod.refl _ _).alloc _
  refine (find_any _ tb mb lv l id (HT.out.mod0 hm0)).mono ?_
  rintro e w1 ⟨hm, hf⟩
  have hm1 := hm0.trans_nil hm
  have hrow : Row w1 w.heap.size 0 u.cells := (Row.of_heap (cs := u.cells) (heap_alloc_at w _)).mod hm (by simp)
  have u0 := hrow 0 _ rfl
  have u1 := hrow 1 _ rfl
  have u2 := hrow 2 _ rfl
  have c1 := hm1.cell hc1 (by simp)
  have hlk : ∀ (n : Nat), (Instr.lookup 118 (.map (some mb)) (.agg #[.int .i64 u.row, .int .i64 u.group, .int .i64 u.unit]) true).run Try.prog (w1.drewN n) = .ok (.tuple #[.int .i64 ((atU l u).getD 0), .bool (atU l u).isSome]) (w1.drewN n) :=
    fun n => (HT.out.mod0 (hm1.drewN n)).lookup u
  rcases hf with ⟨hi, rfl⟩ | ⟨k, b, n, cap, hi, rfl, rfl⟩
  · have e1 : moveL l id u = (l, 12) := by simp [moveL, hi]
    have HE := Lib.hid e1
    generalize (atU l u).getD 0 = r0 at *
    generalize (atU l u).isSome = r1 at *
    clear hi e1
    go_wp2
    go_quiet (fail)
    go_wp2
    go_ret
    exact ⟨lv, by rw [HE.out]; rfl, by rw [HE.out]; exact HT.out.mod0 (hm1.drewN _), (hm1.drewN _).nil, .inl rfl⟩
  · obtain ⟨c, hk, hid, _⟩ := idxOf_some.1 hi
    cases hok : u.ok with
    | false =>
      have e1 : moveL l id u = (l, 1) := by simp [moveL, hi, hok]
      have HE := Lib.hid e1
      have HOk := Lib.hid hok
      generalize (atU l u).getD 0 = r0 at *
      generalize (atU l u).isSome = r1 at *
      clear hi e1 hok hk hid
      go_wp2
      go_quiet (fail)
      go_wp2_with (go_at_call 67; refine (valid_any u _).mono ?_; rintro e w2 ⟨rfl, hm2⟩; rw [HOk.out])
      go_ret
      have hm3 := (hm1.drewN nq).trans_nil hm2
      exact ⟨_, by rw [HE.out]; rfl, by rw [HE.out]; exact HT.out.mod0 hm3, hm3.nil, .inl rfl⟩
    | true =>
      have HOk := Lib.hid hok
      have HP := Lib.hid HT.out.parts
      have HK := Lib.hid hk
      have HI := Lib.hid hid
      by_cases hbad : ∃ o, atU l u = some o ∧ o ≠ id
      · obtain ⟨o, ho, hne⟩ := hbad
        have e1 : moveL l id u = (l, 20) := by simp [moveL, hi, hok, ho, hne]
        have HE := Lib.hid e1
        have hb1 : (o != id) = true := by simpa using hne
        have hb2 : (o == id) = false := by simpa using hne
        rw [ho] at hlk
        simp only [Option.getD_some, Option.isSome_some] at hlk
        clear hi e1 hok hk hid ho hne
        go_wp2
        go_quiet (fail)
        go_wp2_with (go_at_call 67; refine (valid_any u _).mono ?_; rintro e w2 ⟨rfl, hm2⟩; rw [HOk.out])
        go_ret
        have hm3 := (hm1.drewN nq).trans_nil hm2
        exact ⟨_, by rw [HE.out]; rfl, by rw [HE.out]; exact HT.out.mod0 hm3, hm3.nil, .inl rfl⟩
      · have hat : ∀ i, atU l u = some i → i = id := fun i hi => Classical.byContradiction fun hne => hbad ⟨i, hi, hne⟩
        have e1 : moveL l id u = (l.set k { c with pos := u, lost := false }, 0) := by
          cases ho : atU l u with
          | none => simp [moveL, hi, hok, hk, ho]
          | some o => simp [moveL, hi, hok, hk, ho, hat o ho]
        have hinv : Inv (l.set k { c with pos := u, lost := false }) := by
          obtain ⟨_, _, _, _, _, _, _, a6⟩ := HT.out
          exact inv_move a6 hk hok (fun i hi => by rw [hid]; exact hat i hi)
        have HE := Lib.hid e1
        have HInv := Lib.hid hinv
        obtain ⟨cs, M, a1, a2, a3, a4, a5, a6⟩ := HT.out.mod0 hm1
        subst a3
        obtain ⟨rv, hcs, hrowc, _, hd⟩ := a2.at hk
        obtain ⟨cur, hcur, hn, hcap, hlen, _⟩ := a2.1.block
        have hkn : k * 23 + 23 ≤ cur.length := by have := (List.getElem?_eq_some_iff.1 hcs).1; rw [List.length_map] at hn; omega
        have H1 := Lib.hid a1
        have H2 := Lib.hid a2
        have H4 := Lib.hid a4
        have H5 := Lib.hid a5
        have H6 := Lib.hid a6
        have HR := Lib.hid hrowc
        have HC := Lib.hid hcs
        have HCur := Lib.hid hcur
        have HD := Lib.hid hd
        have htbm : tb ∉ [b] := by have := (HP.out.2.1 b rfl).1; simpa using fun e => this e.symm
        have htmb : tb ∉ [mb] := by simpa using HP.out.1
        have hwb : w.heap.size ∉ [b] := by have := HP.out.2.2.2.2.2 b rfl; simp; omega
        have hwmb : w.heap.size ∉ [mb] := by have := HP.out.2.2.2.2.1; simp; omega
        have hbmb : b ∉ [mb] := by have := (HP.out.2.1 b rfl).2; simpa using this
        have hmbb : mb ∉ [b] := by have := (HP.out.2.1 b rfl).2; simpa using fun e => this e.symm
        have hcase : (atU (cksOf cs) u = none) ∨ atU (cksOf cs) u = some id := by
          cases ho : atU (cksOf cs) u with
          | none => exact .inl rfl
          | some o => exact .inr (by rw [hat o ho])
        clear hi hk hid e1 a1 a2 a4 a5 a6 hcs hrowc hd hcur hn hcap hlen hok hinv hbad hat
        rcases hcase with ho | ho
        all_goals
          rw [ho] at hlk
          simp only [Option.getD_some, Option.getD_none, Option.isSome_some, Option.isSome_none] at hlk
          clear ho
          go_wp2
          go_quiet (fail)
          go_wp2_with (first | (go_at_call 67; refine (valid_any u _).mono ?_; rintro e w2 ⟨rfl, hm2⟩; rw [HOk.out]; have hm12 := ((Mod.refl [] w1).drewN nq).trans_nil hm2; have c1' := hm12.cell c1 (by simp)) | (go_at_call 66; refine (leave_any w2 tb mb b k c rv M c1' (HR.out.mod hm12 (by simp)) HD.out (H4.out.mod hm12 (by simp))).mono ?_; rintro e w3 ⟨rfl, hM3, hm3⟩; have hcur3 := hm3.heap (hm12.heap HCur.out (by simp)) hbmb; have HCur3 := Lib.hid hcur3; clear hcur3; have hrow3 := (hrow.mod hm12 (by simp)).mod hm3 hwmb) | (refine wpList_load_at rfl 26 (.tmp 5) rfl _ Try.underlying26 rfl 3 info26 w.heap.size 0 u.cells rfl hrow3 rfl ?_) | (refine wpList_store_at rfl 26 (.tmp 43) (.tmp 41) rfl 3 info26 b (k * 23 + 18) 45 cur u.cells rfl rfl HCur3.out rfl (oneCell_unit _) (by simp [U3.cells]; omega) ?_; intro w4 hh4 hm4; have HH4 := Lib.hid hh4; clear hh4) | (refine wpList_store1 rfl 4 (.tmp 45) (.const (.bool false)) rfl info4 b (k * 23 + 21) 45 (splice cur (k * 23 + 18) u.cells) (.bool false) rfl rfl HH4.out rfl (by rw [length_splice _ _ _ (by simp [U3.cells]; omega)]; omega) ?_; intro w5 hh5 hm5; have HH5 := Lib.hid hh5; clear hh5; have c15 := hm5.cell (hm4.cell (hm3.cell c1' htmb) htbm) htbm; have hrow5 := (hrow3.mod hm4 hwb).mod hm5 hwb; have v0 := hrow5 0 _ rfl; have v1 := hrow5 1 _ rfl; have v2 := hrow5 2 _ rfl))
          go_still_tail 6, (by kernel_rfl)
          go_wp2_with (refine wpList_mapUpdate_unit rfl (.tmp 49) (.tmp 50) (.tmp 51) rfl mb u id (mleave M c) rfl rfl rfl (((MapIs.mod hm5 (MapIs.mod hm4 hM3 hmbb) hmbb)).mod ((Mod.refl [] w5).drew) (by simp)) ?_; intro w6 hM6 hm6)
          go_ret
          have hm35 : Mod [b] w3 w5 := hm4.trans hm5 (by simp)
          have hm56 : Mod [mb] w5 w6 := ((Mod.refl [mb] w5).drew).trans hm6 (by simp)
          have hm16 : Mod [mb, b] w1 w6 := (((hm12.nil (S := [mb, b])).trans hm3 (by simp)).trans hm35 (by simp)).trans hm56 (by simp)
          have hch3 : Chunks w3 (.slice (some ⟨b, 0, none⟩) n cap) cs := (H2.out.mod0 hm12).mod hm3 (NoRefs.map (H4.out.mod hm12 (by simp))) (by intro x hx; simp [Value.ownBlock] at hx; subst hx; exact hbmb)
          have hch5 := chunks_place (w0 := w) hch3 HC.out HD.out HCur3.out u false HH4.out HH5.out hm35 rfl
          have hch := hch5.mod hm56 (NoRefs.map (MapIs.mod hm5 (MapIs.mod hm4 hM3 hmbb) hmbb)) (by intro x hx; simp [Value.ownBlock] at hx; subst hx; exact hbmb)
          refine ⟨.slice (some ⟨b, 0, none⟩) n cap, by rw [HE.out]; rfl, ⟨_, mset (mleave M c) u id, hm16.heap H1.out (by simp at htbm htmb ⊢; exact ⟨htmb, htbm⟩), hch, by rw [HE.out, cksOf_set], hM6, ?_, by rw [HE.out]; exact HInv.out⟩, ?_, .inl rfl⟩
          · rw [HE.out]
            have := agree_move H4.out.nodup H5.out H6.out HK.out HInv.out
            have e : mset (mleave M c) u id = mset (mleave M c) u c.id := by rw [HI.out]
            rw [e]
            exact this
          · exact hm1.nil.trans hm16 (by simp [foot, Value.ownBlock])

end Go.Proofs.Ytknkifanpppglaa
