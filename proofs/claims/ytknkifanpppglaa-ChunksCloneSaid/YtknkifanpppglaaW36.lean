/- The law ChunksClone returns true for every two scripts: the walk. -/
import Derived.Test.YtknkifanpppglaaRng
namespace Go.Proofs.Ytknkifanpppglaa
open Go.RowKit

theorem opn_round {s : List Opn} {w wr w2 : World} {o : Opn} {b off k : Nat} (hrow : Row w b (off + k * 9) o.cells) (hm : Mod [] w wr) : Row wr b (off + k * 9) o.cells := hrow.mod hm (by simp)

set_option maxRecDepth 100000 in
set_option maxHeartbeats 4000000 in
theorem cloneLaw_any (w : World) (sv mv : Value) (s m : List Opn) (h : ScriptAt w sv s) (hs : ∀ o ∈ s, OpnWf o) (hmo : ScriptAt w mv m) (hmw : ∀ o ∈ m, OpnWf o) :
    Calls Try.prog 8 #[sv, mv] w (BoolPost true w) := by
  obtain ⟨a, c, rfl, hr⟩ := hmo.slice
  have hl := hmo.1
  obtain ⟨n, hn⟩ : ∃ n, m.length = n := ⟨_, rfl⟩
  rw [hn] at hl ⊢
  have HN := Lib.hid hn
  have HR := Lib.hid hr
  have HS := Lib.hid h
  have HSW := Lib.hid hs
  have HMW := Lib.hid hmw
  clear hn hr h hmo hs hmw
  go_enter Try.func8, Try.ntmps8
  go_wp2_with fail
  refine (build_any _ sv s HS.out).mono ?_
  rintro e w1 hb
  rcases hb with ⟨_, rfl, hm1⟩ | ⟨_, tb, mb, lv, rfl, o1⟩
  · go_wp2_with (go_at_call 14; refine (sanity_any _).mono ?_; rintro e w2 ⟨rfl, hm2⟩)
    go_ret
    exact ⟨rfl, hm1.trans_nil hm2⟩
  · by_cases hbig : 120 < n
    · have hg : (120 : Int) < (n : Int) := by omega
      go_wp2_with (go_at_call 14; refine (sanity_any _).mono ?_; rintro e w2 ⟨rfl, hm2⟩)
      go_ret
      exact ⟨rfl, o1.mod.trans_nil hm2⟩
    · have hg : ¬ (120 : Int) < (n : Int) := by omega
      have hrng : AllRng (opsL [] s) := rng_ops rng_nil HSW.out
      obtain ⟨l, hl0⟩ : ∃ l, opsL [] s = l := ⟨_, rfl⟩
      rw [hl0] at o1 hrng
      have hrng2 : AllRng (opsL l m) := rng_ops hrng HMW.out
      obtain ⟨S, hS⟩ : ∃ S, strOfNums (encB l) = S := ⟨_, rfl⟩
      obtain ⟨F, hF⟩ : ∃ F, strOfNums (encB (opsL l m)) = F := ⟨_, rfl⟩
      have HSt := Lib.hid hS
      have HF := Lib.hid hF
      have HRng := Lib.hid hrng
      have HRng2 := Lib.hid hrng2
      clear hl0 hS hF hrng hrng2
      go_wp2_with fail
      refine (clone_any _ tb mb lv l o1.tab).mono ?_
      rintro e w2 hp
      obtain ⟨cb, nb, cv, rfl, two⟩ := Two.clone o1 hp
      clear hp o1
      go_wp2_with fail
      refine (encode_any _ tb mb lv l two.t HRng.out).mono ?_
      rintro e w3 ⟨v3, rfl, hb3, hm3, _⟩
      have q3 := conv_bytes hb3
      rw [HSt.out] at q3
      have two3 := two.mod0 hm3
      clear hb3 hm3 two
      go_wp2_with fail
      clear q3
      refine (encode_any _ cb nb cv l two3.c HRng.out).mono ?_
      rintro e w4 ⟨v4, rfl, hb4, hm4, _⟩
      have q4 := conv_bytes hb4
      rw [HSt.out] at q4
      have two4 := two3.mod0 hm4
      have TW := Lib.hid two4
      clear hb4 hm4 two3 two4
      go_wp2_with fail
      clear q4
      go_loopw [41] (fun s41 wr => ∃ k : Nat, k ≤ n ∧ s41 = .int .i64 k ∧ Hid (∃ cv, Two w wr tb mb lv l cb nb cv (opsL l (m.take k)))) (fun s41 _ => n - (intOf s41).toNat)
      case atStart => exact ⟨0, by omega, rfl, Lib.hid ⟨_, TW.out⟩⟩
      case round =>
        obtain ⟨k, hk, rfl, HT⟩ := hrel
        obtain ⟨cv', two⟩ := HT.out
        clear TW
        by_cases hlt : k < n
        · obtain ⟨o, ho⟩ : ∃ o, m[k]? = some o := ⟨_, List.getElem?_eq_getElem (by have := HN.out; omega)⟩
          obtain ⟨b, off, rfl, hrow⟩ := HR.out k o ho
          have hrow1 := hrow.mod two.mod (by simp)
          have htk := opsL_take l m k o ho
          have HTk := Lib.hid htk
          have TW := Lib.hid two
          clear ho hrow htk two
          go_wp2_with (first | (refine wpList_load_at rfl 37 (.tmp 43) rfl _ Try.underlying37 rfl 9 infoOp b (off + k * 9) o.cells rfl hrow1 rfl ?_) | (refine wpList_store_at rfl 37 (.tmp 10) (.tmp 44) rfl 9 infoOp wr.heap.size 0 37 zeroOp o.cells rfl rfl (heap_alloc_at _ _) rfl (oneCell_op o) (Nat.le_refl 9) ?_; intro w5 hh5 hs5; obtain ⟨row5, hm5⟩ := store_op hh5 hs5; clear hh5 hs5) | (refine wpList_load_at rfl 37 (.tmp 10) rfl _ Try.underlying37 rfl 9 infoOp wr.heap.size 0 o.cells rfl row5 rfl ?_) | (go_at_call 30; refine (do_any w5 cb nb cv' (opsL l (m.take k)) o (TW.out.mod0 hm5).c).mono ?_; rintro e w6 hp6; obtain ⟨rfl, ht6⟩ := (TW.out.mod0 hm5).op hp6; have HTT := Lib.hid ht6; clear ht6 hp6))
          go_roundw
          case rel => exact ⟨k + 1, by omega, by go_num, Lib.hid (by rw [HTk.out]; exact HTT.out)⟩
          case measure => simp [intOf]; omega
        · obtain rfl : n = k := by omega
          rw [List.take_of_length_le (by have := HN.out; omega)] at two
          go_wp2_with fail
          refine (encode_any _ tb mb lv l two.t HRng.out).mono ?_
          rintro e w5 ⟨v5, rfl, hb5, hm5, _⟩
          have q5 := conv_bytes hb5
          rw [HSt.out] at q5
          have two5 := two.mod0 hm5
          clear hb5 hm5 two HT
          go_wp2_with fail
          clear q5
          refine (encode_any _ cb nb cv' _ two5.c HRng2.out).mono ?_
          rintro e w6 ⟨v6, rfl, hb6, hm6, _⟩
          have q6 := conv_bytes hb6
          rw [HF.out] at q6
          have two6 := two5.mod0 hm6
          have TW := Lib.hid two6
          clear hb6 hm6 two5 two6
          go_wp2_with fail
          clear q6
          go_loopw [59] (fun s59 wr => ∃ k : Nat, k ≤ n ∧ s59 = .int .i64 k ∧ Hid (∃ lv, Two w wr cb nb cv' (opsL l m) tb mb lv (opsL l (m.take k)))) (fun s59 _ => n - (intOf s59).toNat)
          case atStart => exact ⟨0, by omega, rfl, Lib.hid ⟨_, TW.out.swap⟩⟩
          case round =>
            obtain ⟨k, hk, rfl, HT⟩ := hrel
            obtain ⟨lv', two⟩ := HT.out
            clear TW
            by_cases hlt : k < n
            · obtain ⟨o, ho⟩ : ∃ o, m[k]? = some o := ⟨_, List.getElem?_eq_getElem (by have := HN.out; omega)⟩
              obtain ⟨b, off, rfl, hrow⟩ := HR.out k o ho
              have hrow1 := hrow.mod two.mod (by simp)
              have htk := opsL_take l m k o ho
              have HTk := Lib.hid htk
              have TW := Lib.hid two
              clear ho hrow htk two
              go_wp2_with (first | (refine wpList_load_at rfl 37 (.tmp 61) rfl _ Try.underlying37 rfl 9 infoOp b (off + k * 9) o.cells rfl hrow1 rfl ?_) | (refine wpList_store_at rfl 37 (.tmp 13) (.tmp 62) rfl 9 infoOp wr.heap.size 0 37 zeroOp o.cells rfl rfl (heap_alloc_at _ _) rfl (oneCell_op o) (Nat.le_refl 9) ?_; intro w5 hh5 hs5; obtain ⟨row5, hm5⟩ := store_op hh5 hs5; clear hh5 hs5) | (refine wpList_load_at rfl 37 (.tmp 13) rfl _ Try.underlying37 rfl 9 infoOp wr.heap.size 0 o.cells rfl row5 rfl ?_) | (go_at_call 30; refine (do_any w5 tb mb lv' (opsL l (m.take k)) o (TW.out.mod0 hm5).c).mono ?_; rintro e w6 hp6; obtain ⟨rfl, ht6⟩ := (TW.out.mod0 hm5).op hp6; have HTT := Lib.hid ht6; clear ht6 hp6))
              go_roundw
              case rel => exact ⟨k + 1, by omega, by go_num, Lib.hid (by rw [HTk.out]; exact HTT.out)⟩
              case measure => simp [intOf]; omega
            · obtain rfl : n = k := by omega
              rw [List.take_of_length_le (by have := HN.out; omega)] at two
              go_wp2_with fail
              refine (sanity_any _).mono ?_
              rintro e w7 ⟨rfl, hm7⟩
              have two7 := two.mod0 hm7
              clear two HT
              go_wp2_with fail
              refine (encode_any _ cb nb cv' _ two7.t HRng2.out).mono ?_
              rintro e w8 ⟨v8, rfl, hb8, hm8, _⟩
              have q8 := conv_bytes hb8
              rw [HF.out] at q8
              have two8 := two7.mod0 hm8
              clear hb8 hm8 two7
              go_wp2_with fail
              clear q8
              refine (encode_any _ tb mb lv' _ two8.c HRng2.out).mono ?_
              rintro e w9 ⟨v9, rfl, hb9, hm9, _⟩
              have q9 := conv_bytes hb9
              rw [HF.out] at q9
              have two9 := two8.mod0 hm9
              clear hb9 hm9 two8
              go_wp2
              go_ret
              exact ⟨by first | rfl | simp, two9.mod⟩

theorem cloneLaw_row (w : World) (sv : Value) (s : List Opn) (h : ScriptAt w sv s) (hs : ∀ o ∈ s, OpnWf o) (mv : Value) (m : List Opn) (hmo : ScriptAt w mv m) (hmw : ∀ o ∈ m, OpnWf o) :
    Calls Try.prog 8 #[sv, mv] w (BoolPost true w) := cloneLaw_any w sv mv s m h hs hmo hmw

end Go.Proofs.Ytknkifanpppglaa
