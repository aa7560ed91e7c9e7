/- names.deep, names.parts. -/
import Derived.Test.YtofmdmmgbfbaoaaDoorA5
namespace Go.Proofs.YtofmdmmgbfbaoaaDoor
open Go.RowKit

def maxL (l : List Nat) : Nat := l.foldl max 0
/-- How deep: how it goes on from a stack of depths. -/
def deepFrom : List XOp → List Nat → List Nat
  | [], st => st
  | o :: es, st => deepFrom es (st.take (st.length - o.n.toNat) ++ [maxL (st.drop (st.length - o.n.toNat)) + 1])
def deepF (es : List XOp) : Nat := (deepFrom es []).getD 0 0
theorem deepFrom_drop (es : List XOp) (k : Nat) (h : k < es.length) (st : List Nat) :
    deepFrom (es.drop k) st = deepFrom (es.drop (k + 1)) (st.take (st.length - es[k].n.toNat) ++ [maxL (st.drop (st.length - es[k].n.toNat)) + 1]) := by
  rw [List.drop_eq_getElem_cons h, deepFrom]
/-- What begins takes, op by op: the stack is never too short. -/
theorem begins_step {es : List XOp} {k : Nat} (h : k < es.length) {fr st fr' st' : List Nat} (hb : beginsFrom (es.drop k) k fr st = some (fr', st')) :
    wellF es[k] = true ∧ es[k].n.toNat ≤ st.length ∧ 0 ≤ es[k].n ∧ ∃ fr2 st2, beginsFrom (es.drop (k + 1)) (k + 1) fr2 st2 = some (fr', st') ∧ st2.length = st.length - es[k].n.toNat + 1 := by
  rw [beginsFrom_drop es k h] at hb
  split at hb
  · cases hb
  · rename_i hc
    have hw : wellF es[k] = true := by cases hq : wellF es[k] <;> simp_all
    have h0 := well_n hw
    refine ⟨hw, by omega, h0, _, _, hb, ?_⟩
    rw [List.length_append, List.length_take, List.length_singleton]
    omega
theorem maxL_take (l : List Nat) (j : Nat) (h : j < l.length) : maxL (l.take (j + 1)) = max (maxL (l.take j)) l[j] := by
  unfold maxL
  rw [List.take_succ_eq_append_getElem h, List.foldl_append]
  rfl
theorem maxL_le (l : List Nat) (b : Nat) (h : ∀ x ∈ l, x ≤ b) : maxL l ≤ b := by
  unfold maxL
  have : ∀ (l : List Nat) (a : Nat), a ≤ b → (∀ x ∈ l, x ≤ b) → l.foldl max a ≤ b := by
    intro l
    induction l with
    | nil => intro a ha _; exact ha
    | cons x l ih => intro a ha hx; exact ih _ (Nat.max_le.2 ⟨ha, hx x (by simp)⟩) (fun y hy => hx y (by simp [hy]))
  exact this l 0 (Nat.zero_le _) h

set_option maxHeartbeats 2000000 in
set_option maxRecDepth 100000 in
theorem deep_c (es : List XOp) (A : Option Addr) (c : Nat) (w : World) (hx : OpsAt w A es) (hl : es.length ≤ 256) (hbg : ∃ fr b, beginsF es = some (fr, [b])) :
    Calls Tryd.prog 55 #[.slice A es.length c] w fun e w' => e = .returned (.int .i64 (deepF es)) ∧ Below w.heap.size w w' := by
  obtain ⟨i0, hi0, hz0, hz1, hz2⟩ := info_parts info_int
  obtain ⟨frz, bz, hbg⟩ := hbg
  have HB := Lib.hid hbg
  clear hbg
  go_enter Tryd.func55, Tryd.ntmps55
  go_wp2
  go_loopw [3, 13] (fun v i wr => ∃ (k : Nat) (st fr' st' : List Nat) (g cap : Nat), k ≤ es.length ∧ i = .int .i64 k ∧ Hid (deepFrom (es.drop k) st = deepFrom es []) ∧ Hid (beginsFrom (es.drop k) k fr' st' = some (frz, [bz])) ∧ st'.length = st.length ∧ (∀ x ∈ st, x ≤ k) ∧ st.length ≤ k ∧ v = .slice (some ⟨g, 0, none⟩) st.length cap ∧
      wr.ownsRow w.heap.size 3 1 (.slice (some ⟨g, 0, none⟩) st.length cap) st.length (ints st) ∧ Below w.heap.size w wr) (fun _ i _ => es.length - (intOf i).toNat)
  case atStart =>
    refine ⟨0, [], [], [], w.heap.size, 0, by omega, rfl, rfl, HB.out, rfl, by simp, by simp, rfl, ?_, (Below.refl _ _).alloc (Nat.le_refl _) _⟩
    have := World.ownsRow_made (size := 1) (e := 3) (base := w.heap.size) w #[] 0 (by simp) (by simp [maxLen]) (by simp)
    simpa [ints] using this
  case round =>
    obtain ⟨k, st, fr', st', g, cap, hk, rfl, hr, hbk, hle, hmx, hst, rfl, hown, hbel⟩ := hrel
    by_cases hlt : k < es.length
    · rcases hx with rfl | ⟨b, off, rfl, hb, hc⟩
      · simp at hlt
      · obtain ⟨h0, h1, h2, h3⟩ := hc k hlt
        obtain ⟨hcc, hff⟩ := bcell hbel
        have g0 := (hcc b (off + k * 4) hb).trans h0
        have g1 := (hcc b (off + k * 4 + 1) hb).trans h1
        have g2 := (hcc b (off + k * 4 + 2) hb).trans h2
        have g3 := (hcc b (off + k * 4 + 3) hb).trans h3
        have hbr : b < wr.heap.size := Nat.lt_of_lt_of_le hb hbel.size
        clear hc h0 h1 h2 h3 hcc hff
        have hu := deepFrom_drop es k hlt st
        have HU := Lib.hid hu
        clear hu
        obtain ⟨hw, hnl, hn0, fr2, st2, hb2, hl2⟩ := begins_step hlt hbk.out
        have HB2 := Lib.hid hb2
        have HW := Lib.hid hw
        clear hb2 hw
        obtain ⟨m, hm⟩ := Int.eq_ofNat_of_zero_le hn0
        rw [hm] at g1 hnl hl2
        rw [Int.toNat_natCast] at hnl hl2
        have HM := Lib.hid hm
        clear hm hn0
        have hkk : (st.length : Int) - (m : Int) = ((st.length - m : Nat) : Int) := by omega
        have hcap := own_cap hown
        have hgw := own_blk hown
        obtain ⟨A', hsl, hA'⟩ := slice_from Tryd.underlying96 hi0 hz1 g st.length cap (st.length - m) (by omega)
        have HA := Lib.hid hA'
        clear hA'
        have hmm : st.length - (st.length - m) = m := by omega
        have hmk := hnl
        have hs0 := hbel.size
        go_wp2
        go_loop [7, 26] (fun d i => ∃ j : Nat, j ≤ m ∧ i = .int .i64 j ∧ d = .int .i64 (maxL ((st.drop (st.length - m)).take j) : Nat)) (fun _ i => m - (intOf i).toNat)
        case atStart => exact ⟨0, by omega, rfl, rfl⟩
        case round =>
          obtain ⟨j, hj, rfl, rfl⟩ := hrel
          by_cases hjm : j < m
          · have hix : st.length - m + j < st.length := by omega
            have hcj := own_cell hown (st.length - m + j) hix
            have hA2 := HA.out (by omega)
            subst hA2
            have hdl : j < (st.drop (st.length - m)).length := by rw [List.length_drop]; omega
            have hnx := maxL_take (st.drop (st.length - m)) j hdl
            have HN := Lib.hid hnx
            clear hnx
            go_wp2
            go_round
            case rel => exact ⟨j + 1, by omega, by go_num, by rw [HN.out, List.getElem_drop]; go_light; simp [max_if]⟩
            case measure => simp [intOf]; omega
          · obtain rfl : j = m := by omega
            have hmb0 := maxL_le ((st.drop (st.length - j)).take j) k (fun x hx => hmx x (List.mem_of_mem_drop (List.mem_of_mem_take hx)))
            have hmb : (maxL ((st.drop (st.length - j)).take j) : Int) ≤ 256 := by omega
            have hd : (st.drop (st.length - j)).take j = st.drop (st.length - j) := List.take_of_length_le (by rw [List.length_drop]; omega)
            have HD := Lib.hid hd
            clear hd
            have ot := own_take (hown.alloc (.cells #[.int .i64 es[k].kind, .int .i64 (j : Int), .int .i64 es[k].int, .string es[k].text] 58)) (k := st.length - j) (by omega)
            rw [ints_take, Nat.mul_one] at ot
            go_wp2_with (at_builtin; go_must (refine app_row w.heap.size (by rfl) _ _ 96 3 (.int .i64 0) 8 (by rfl) Tryd.underlying96 info_int rfl (.slice (some ⟨g, 0, none⟩) (st.length - j) cap) (st.length - j) _ (.int .i64 ((maxL ((st.drop (st.length - j)).take j) : Int) + 1)) (by rfl) (wr.heap.size + 1) (by rfl) (by simp) rfl ot (by simp; omega) (by omega) (by omega) ?_); intro g3 cap3 w3 o3 hgrow hs3)
            go_roundw
            case rel =>
              go_light
              have hv : (Value.int .i64 ((maxL ((st.drop (st.length - j)).take j) : Int) + 1)) = .int .i64 ((maxL (st.drop (st.length - j)) + 1 : Nat) : Int) := by rw [HD.out]; go_num
              rw [hv] at o3
              have hln : (st.take (st.length - j) ++ [maxL (st.drop (st.length - j)) + 1]).length = st.length - j + 1 := by rw [List.length_append, List.length_take, List.length_singleton]; omega
              refine ⟨k + 1, st.take (st.length - j) ++ [maxL (st.drop (st.length - j)) + 1], fr2, st2, g3, cap3, by omega, by go_num, ?_, HB2.out, by rw [hln]; omega, ?_, by rw [hln]; omega, by rw [hln], by rw [hln, ints_append]; exact o3, ?_⟩
              · have : deepFrom (es.drop (k + 1)) (st.take (st.length - j) ++ [maxL (st.drop (st.length - j)) + 1]) = deepFrom es [] := by
                  rw [← hr.out, HU.out, HM.out, Int.toNat_natCast]
                exact this
              · intro x hx
                rw [List.mem_append, List.mem_singleton] at hx
                rcases hx with hx | rfl
                · have := hmx x (List.mem_of_mem_take hx); omega
                · have := maxL_le (st.drop (st.length - j)) k (fun x hx => hmx x (List.mem_of_mem_drop hx)); omega
              · exact (hbel.alloc hs0 _).grown hgrow (by simp; omega) (fun q hq => by simp [Value.ownBlock] at hq; omega)
            case measure => simp [intOf]; omega
    · have hke : k = es.length := by omega
      have HK := Lib.hid hke
      clear hke
      have hfin := hbk.out
      rw [List.drop_of_length_le (by omega), beginsFrom] at hfin
      have hst1 : st'.length = 1 := by
        have h2 := Option.some.inj hfin
        rw [Prod.mk.injEq] at h2
        rw [h2.2]; rfl
      have hst2 : 0 < st.length := by omega
      have hc0 := own_cell hown 0 hst2
      have hz : st[0] = deepF es := by
        unfold deepF
        rw [← hr.out, List.drop_of_length_le (by omega), deepFrom, List.getD_eq_getElem?_getD, List.getElem?_eq_getElem hst2]
        rfl
      have HZ := Lib.hid hz
      clear hz hfin hst1 hle
      go_wp2
      go_ret
      exact ⟨ret_nat HZ.out, hbel⟩
end Go.Proofs.YtofmdmmgbfbaoaaDoor
