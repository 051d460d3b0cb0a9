/- Walks: Lose. -/
import Derived.Test.YtknkifanpppglaaW7
import Derived.Test.YtknkifanpppglaaInv
namespace Go.Proofs.Ytknkifanpppglaa
open Go.RowKit

theorem info4 : (Try.prog.info? 4).map (·.size) = some 1 := by kernel_rfl

theorem oneCell_unit (u : U3) : ∀ x ∈ u.cells, x.oneCell' = true := by
  intro x hx
  simp [U3.cells] at hx
  rcases hx with rfl | rfl | rfl <;> rfl

/-- pos and lost of the chunk at k were written -/
theorem chunks_place {w0 w2 w3 w4 : World} {b n cap : Nat} {cs : List (Ck × Value)} (h2 : Chunks w2 (.slice (some ⟨b, 0, none⟩) n cap) cs) {k : Nat} {c : Ck} {rv : Value} (hk : cs[k]? = some (c, rv)) (hd : c.dig.length = 16)
    {cur : List Value} (hcur : w2.heap[b]? = some (.cells cur.toArray 45 (0, 0))) (u : U3) (x : Bool)
    (h3 : w3.heap[b]? = some (.cells (splice cur (k * 23 + 18) u.cells).toArray 45 (0, 0)))
    (h4 : w4.heap[b]? = some (.cells ((splice cur (k * 23 + 18) u.cells).set (k * 23 + 21) (.bool x)).toArray 45 (0, 0)))
    (hm : Mod [b] w2 w4) (_ : w0 = w0) : Chunks w4 (.slice (some ⟨b, 0, none⟩) n cap) (cs.set k ({ c with pos := u, lost := x }, rv)) := by
  obtain ⟨cur', hb, hn, hcap, hlen, _⟩ := h2.1.block
  rw [hcur] at hb
  have : cur = cur' := by simpa using hb
  subst this
  have hkl := (List.getElem?_eq_some_iff.1 hk).1
  have hke : (cs.map fun p => p.1.cells p.2)[k]? = some (c.cells rv) := by simp [hk]
  have hl : k * 23 + 23 ≤ cur.length := by rw [List.length_map] at hn; omega
  have o3 := Own.write h2.1 hcur (k := k) (j := 18) hke (by simp [U3.cells]) h3
  rw [Ck.splicePos hd] at o3
  have hke3 : ((cs.map fun p => p.1.cells p.2).set k (({ c with pos := u } : Ck).cells rv))[k]? = some (({ c with pos := u } : Ck).cells rv) := by simp [hkl]
  have o4 := Own.write o3 h3 (k := k) (j := 21) (cs := [.bool x]) hke3 (by simp) (by rw [splice_one _ _ _ (by rw [length_splice _ _ _ (by simp [U3.cells]; omega)]; omega)]; exact h4)
  rw [Ck.spliceLost (c := { c with pos := u }) hd, List.set_set] at o4
  have hnr : NoRefs w2 [b] := NoRefs.one hcur (by decide)
  exact h2.write hm hnr o4 ((h2.2 (c, rv) (List.mem_of_getElem? hk)).mod hm hnr)

set_option maxRecDepth 100000 in
set_option maxHeartbeats 1000000 in
theorem lose_any (w : World) (tb mb : Nat) (lv : Value) (l : List Ck) (id : Int) (h : Tab w tb mb lv l) :
    Calls Try.prog 34 #[.pointer (some ⟨tb, 0, none⟩), .int .i64 id] w (TabPost tb mb lv (loseL l id).1 (.int .i64 (loseL l id).2) w) := by
  have HT := Lib.hid h
  have hc1 := h.open.2.1
  clear h
  go_enter Try.func34, Try.ntmps34
  go_wp2_with fail
  refine (find_any _ tb mb lv l id HT.out).mono ?_
  rintro e w1 ⟨hm, hf⟩
  rcases hf with ⟨hi, rfl⟩ | ⟨k, b, n, cap, hi, rfl, rfl⟩
  · have e1 : loseL l id = (l, 12) := by simp [loseL, hi]
    have HE := Lib.hid e1
    clear hi e1
    go_wp2
    go_ret
    exact ⟨lv, by rw [HE.out]; rfl, by rw [HE.out]; exact HT.out.mod0 hm, hm.nil, .inl rfl⟩
  · obtain ⟨c, hk, hid, _⟩ := idxOf_some.1 hi
    have e1 : loseL l id = (l.set k { c with pos := zeroU, lost := true }, 0) := by simp [loseL, hi, hk]
    have HE := Lib.hid e1
    have HP := Lib.hid HT.out.parts
    obtain ⟨cs, M, a1, a2, a3, a4, a5, a6⟩ := HT.out.mod0 hm
    subst a3
    obtain ⟨rv, hcs, hrow, _, hd⟩ := a2.at hk
    obtain ⟨cur, hcur, hn, hcap, hlen, _⟩ := a2.1.block
    have hkn : k * 23 + 23 ≤ cur.length := by have := (List.getElem?_eq_some_iff.1 hcs).1; rw [List.length_map] at hn; omega
    have c1 := hm.cell hc1 (by simp)
    have H1 := Lib.hid a1
    have H2 := Lib.hid a2
    have H4 := Lib.hid a4
    have H5 := Lib.hid a5
    have H6 := Lib.hid a6
    have HR := Lib.hid hrow
    have HC := Lib.hid hcs
    have HCur := Lib.hid hcur
    have HD := Lib.hid hd
    have HK := Lib.hid hk
    clear hi hk hid e1 a1 a2 a4 a5 a6 hcs hrow hd hcur hn hcap hlen
    go_wp2_with (first | (go_at_call 66; refine (leave_any w1 tb mb b k c rv M c1 HR.out HD.out H4.out).mono ?_; rintro e w2 ⟨rfl, hM2, hm2⟩; have hcur2 := hm2.heap HCur.out (by have := (HP.out.2.1 b rfl).2; simpa using this); have HCur2 := Lib.hid hcur2; clear hcur2) | (refine wpList_store_at rfl 26 (.tmp 18) (.tmp 16) rfl 3 info26 b (k * 23 + 18) 45 cur zeroU.cells rfl rfl HCur2.out rfl (oneCell_unit _) (by simp [U3.cells]; omega) ?_; intro w3 hh3 hm3; have HH3 := Lib.hid hh3; clear hh3) | (refine wpList_store1 rfl 4 (.tmp 20) (.const (.bool true)) rfl info4 b (k * 23 + 21) 45 (splice cur (k * 23 + 18) zeroU.cells) (.bool true) rfl rfl HH3.out rfl (by rw [length_splice _ _ _ (by simp [U3.cells]; omega)]; omega) ?_; intro w4 hh4 hm4; have HH4 := Lib.hid hh4; clear hh4))
    go_ret
    obtain ⟨p1, p2, p3, p4, p5, p6⟩ := HP.out
    have hbt := p2 b rfl
    have hm24 : Mod [b] w2 w4 := hm3.trans hm4 (by simp)
    have hm14 : Mod [mb, b] w1 w4 := (hm2.mono (by simp)).trans hm24 (by simp)
    have hch2 : Chunks w2 (.slice (some ⟨b, 0, none⟩) n cap) cs := H2.out.mod hm2 (fun x hx cur' fr' hh => by
      simp at hx; subst hx
      obtain ⟨es, cl, hmm, _⟩ := H4.out
      rw [hmm] at hh; cases hh) (by intro x hx; simp [Value.ownBlock] at hx; subst hx; simpa using hbt.2)
    have hch := chunks_place (w0 := w) hch2 HC.out HD.out HCur2.out zeroU true HH3.out HH4.out hm24 rfl
    have hinv := inv_lose H6.out HK.out
    refine ⟨.slice (some ⟨b, 0, none⟩) n cap, by rw [HE.out]; rfl, ⟨_, mleave M c, hm14.heap H1.out (by simp; exact ⟨p1, fun e => hbt.1 e.symm⟩), hch, by rw [HE.out, cksOf_set], MapIs.mod hm24 hM2 (by simpa using fun e => hbt.2 e.symm), ?_, by rw [HE.out]; exact hinv⟩, ?_, .inl rfl⟩
    · rw [HE.out]; exact agree_lose H4.out.nodup H5.out H6.out HK.out hinv
    · exact (hm.nil.trans hm14 (by simp [foot, Value.ownBlock]))

end Go.Proofs.Ytknkifanpppglaa
