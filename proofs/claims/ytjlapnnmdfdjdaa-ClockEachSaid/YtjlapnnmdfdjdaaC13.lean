/- A clock in memory: Stop, Move. -/
import Derived.Test.YtjlapnnmdfdjdaaC12
namespace Go.Proofs.Ytjlapnnmdfdjdaa
open Go.RowKit
theorem tm_uniq : ∀ {L : List Tm} {x y : Tm}, (L.map (·.n)).Nodup → x ∈ L → y ∈ L → x.n = y.n → x = y
  | [], _, _, _, h, _, _ => by cases h
  | z :: L, x, y, hn, hx, hy, e => by
    rw [List.map_cons, List.nodup_cons] at hn
    rcases List.mem_cons.1 hx with rfl | hx1 <;> rcases List.mem_cons.1 hy with rfl | hy1
    · rfl
    · exact (hn.1 (List.mem_map.2 ⟨y, hy1, e.symm⟩)).elim
    · exact (hn.1 (List.mem_map.2 ⟨x, hx1, e⟩)).elim
    · exact tm_uniq hn.2 hx1 hy1 e
theorem hasN_iff {k : Int} {L : List Tm} : hasN k L = true ↔ ∃ t ∈ L, t.n = k := by unfold hasN; simp
/-- What lies elsewhere stays, and so does the clock. -/
theorem CAt.below {B s : Nat} {w w' : World} {c : Clk} (h : CAt B s w c) (hb : Below w.heap.size w w') : CAt B s w' c ∧ HMoves s 2 w w' := by
  obtain ⟨h0, h1, H, ⟨hq, hf⟩, hh⟩ := h
  have hq2 := hq.below hb
  exact ⟨⟨(hq2.2.2 0 (by omega)).trans h0, (hq2.2.2 1 (by omega)).trans h1, H, ⟨hq2.1, hf⟩, hh⟩, hq2.2.1⟩
set_option maxRecDepth 100000 in
theorem place_c {B s : Nat} {w : World} {H : List Tm} (hq : QAt B s w H) (k : Int) (hl : H.length ≤ 1024) :
    Calls Try.prog 33 #[cV s, .int .i64 k] w (PlacePost H k w) := by
  obtain ⟨v, c2, hz, ho, hne, hB⟩ := hq
  obtain ⟨X, cap, rfl, _⟩ := own_rowS ho
  have hlt := World.block_lt_of_cell? w _ c2
  obtain ⟨W, hW⟩ : ∃ W, W = w.alloc (.cells #[.int .i64 k] 3) := ⟨_, rfl⟩
  have hb : Below w.heap.size w W := by rw [hW]; exact (Below.refl _ _).alloc (Nat.le_refl _) _
  have c3 : W.cell? ⟨s, 2, none⟩ = some (.slice X H.length cap) := (hb.cell hlt).trans c2
  have hi := index_c (nb := w.heap.size) (w := W) (k := k) (by rw [hW]; exact ho.alloc _) (by rw [hW]; exact cell_new _ _ _ _) hl
  have fin : ∀ e w', PlacePost H k W e w' → PlacePost H k w e w' := by
    rintro e w' ⟨i, h1, h2, h3⟩
    exact ⟨i, h1, hb.trans (h2.mono hb.size), h3⟩
  have HI := Lib.hid hi
  have HW := Lib.hid hW
  have FIN := Lib.hid fin
  clear hW hi fin ho hz hne hb
  go_enter Try.func33, Try.ntmps33
  go_wp2_with fail
  rw [← HW.out]
  go_wp2_with (go_at_call 48; refine HI.out.mono ?_; rintro e w1 ⟨i, rfl, hr⟩)
  go_ret
  exact FIN.out _ _ ⟨i, rfl, hr⟩
theorem stop_c {B s : Nat} {w : World} {c : Clk} (h : CAt B s w c) (hf : c.Fine) (k : Int) :
    Calls Try.prog 18 #[cV s, .int .i64 k] w (ClkPost B s w (.int .i64 (c.stop k).2) (c.stop k).1) := by
  have h' := h
  obtain ⟨c0, c1, H, ⟨hq, hfi⟩, hh⟩ := h
  have hl : H.length ≤ 1024 := by rw [hh.length]; exact hf.ok.len
  have HP := Lib.hid (place_c hq k hl)
  have HL := Lib.hid hl
  have HC := Lib.hid h'
  have HH := Lib.hid hh
  have HQ := Lib.hid hq
  have HFI := Lib.hid hfi
  have HND := Lib.hid hf.ok.fit.nod
  clear h' c0 c1 hq hfi hh hl hf
  go_enter Try.func18, Try.ntmps18
  go_wp2_with fail
  go_at_call 33
  refine HP.out.mono ?_
  rintro e w1 ⟨i, rfl, hb, ⟨rfl, hno⟩ | ⟨j, rfl, hj, hk⟩⟩
  · have e1 : c.stop k = (c, 4) := by
      unfold Clk.stop
      rw [if_neg]
      rw [hasN_iff]
      rintro ⟨t, ht, e⟩
      exact hno t (HH.out.perm.mem_iff.2 ht) e
    have E1 := Lib.hid e1
    have FIN := Lib.hid (HC.out.below hb)
    clear hb hno e1
    go_wp2
    go_ret
    rw [E1.out]
    exact ⟨rfl, FIN.out⟩
  · have hj0 : ¬ (j : Int) < 0 := by omega
    have hq1 := HQ.out.below hb
    have hc1 := HC.out.below hb
    have hrem := remove_c (q_ops B s) (q_ends B s) tm_ord (i := j) ⟨hq1.1, HFI.out⟩ HH.out.heap hj (by have := HL.out; omega)
    have e1 : c.stop k = (⟨c.now, c.last, without k c.L⟩, 0) := by
      unfold Clk.stop
      rw [if_pos]
      rw [hasN_iff]
      exact ⟨H[j]!, HH.out.perm.mem_iff.1 (by rw [getElem!_pos H j hj]; exact List.getElem_mem hj), hk⟩
    have E1 := Lib.hid e1
    have FIN : Hid (∀ w', RemPost Tm.lt encT (QR B s) (QMoves s) H j w1 (.returned (encT H[j]!)) w' → CAt B s w' ⟨c.now, c.last, without k c.L⟩ ∧ HMoves s 2 w w') := Lib.hid fun w' h => by
      obtain ⟨_, H', hr, hp, hhp, hm⟩ := h
      refine ⟨⟨(hm.2 0 (by omega)).trans hc1.1.now, (hm.2 1 (by omega)).trans hc1.1.last, H', hr, ?_⟩, hc1.2.trans hm.1⟩
      have := HH.out.removed HND.out hp hhp
      rw [hk] at this
      exact this
    have HREM := Lib.hid hrem
    clear hb hq1 hc1 hrem e1 hj hk
    go_wp2_with fail
    go_at_call 34
    refine HREM.out.mono ?_
    rintro e w2 ⟨rfl, hr⟩
    go_wp2
    go_ret
    rw [E1.out]
    exact ⟨rfl, FIN.out _ ⟨rfl, hr⟩⟩
end Go.Proofs.Ytjlapnnmdfdjdaa
