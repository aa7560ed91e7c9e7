/- What the theorems ask first: not too many nodes; a way. -/
import Derived.Test.YtpdfcffeinbcaaaH7
import Derived.Test.YtpdfcffeinbcaaaH8
import Derived.Test.YtpdfcffeinbcaaaH43
namespace Go.Proofs.Ytpdfcffeinbcaaa
open Go.RowKit
def fitsB (g : XG) : Bool := decide (0 ≤ g.n ∧ g.n ≤ 24 ∧ g.es.length ≤ 200 ∧ chkF g = 0)
set_option maxHeartbeats 1000000 in
theorem fits_c (g : XG) (E : Option Addr) (d : Nat) (w : World) (h : GAt w E g) (hl : g.es.length ≤ 4611686018427387904) :
    Calls Try.prog 42 #[g.val E d] w fun e w' => e = .returned (.bool (fitsB g)) ∧ Below w.heap.size w w' := by
  obtain ⟨m, hm⟩ : ∃ m, m = g.es.length := ⟨_, rfl⟩
  have hck := fun W h => check_c g E d W h hl
  have hbx := box_at (w := w) (t := 24) g E d
  have hv : g.val E d = .agg #[.int .i64 g.n, .slice E m d] := by rw [hm]; rfl
  rw [hv] at hck ⊢
  have HCK := Lib.hid hck
  have HG := Lib.hid h
  obtain ⟨bb, hbb⟩ : ∃ bb, bb = fitsB g := ⟨_, rfl⟩
  rw [← hbb]
  unfold fitsB at hbb
  rw [← hm] at hbb hbx
  have HBB := Lib.hid hbb
  have hb1 := hbx.bel
  have c0 := hbx.c0
  have c1 := hbx.c1
  rw [← hm] at c1
  have HB1 := Lib.hid hb1
  obtain ⟨n, hn⟩ : ∃ n, n = g.n := ⟨_, rfl⟩
  rw [← hn] at HBB HB1 HCK c0 ⊢
  obtain ⟨ck, hck2⟩ : ∃ ck, ck = chkF g := ⟨_, rfl⟩
  rw [← hck2] at HBB HCK
  have HN := Lib.hid hn
  have hml : m ≤ 4611686018427387904 := by omega
  clear hv h hck hbb hbx hb1 hm hn hck2
  go_enter Try.func42, Try.ntmps42
  by_cases h1 : 0 ≤ n
  · by_cases h2 : n ≤ 24
    · by_cases h3 : m ≤ 200
      · have h3' : (m : Int) ≤ 200 := by omega
        go_wp2_with fail
        go_at_call 14
        refine (HCK.out _ (HG.out.below HB1.out)).mono ?_
        rintro e w1 ⟨rfl, hb⟩
        have HB2 := Lib.hid (HB1.out.trans (hb.mono HB1.out.size))
        clear hb
        by_cases h4 : ck = 0
        · have hq : (ck == 0) = true := by simpa using h4
          obtain rfl : bb = true := by rw [HBB.out]; exact decide_eq_true ⟨h1, h2, h3, h4⟩
          go_wp2
          go_ret
          exact ⟨rfl, HB2.out⟩
        · have hq : (ck == 0) = false := by simpa using h4
          obtain rfl : bb = false := by rw [HBB.out]; exact decide_eq_false fun h => h4 h.2.2.2
          go_wp2
          go_ret
          exact ⟨rfl, HB2.out⟩
      · have h3' : ¬ (m : Int) ≤ 200 := by omega
        obtain rfl : bb = false := by rw [HBB.out]; exact decide_eq_false fun h => h3 h.2.2.1
        go_wp2
        go_ret
        exact ⟨rfl, HB1.out⟩
    · obtain rfl : bb = false := by rw [HBB.out]; exact decide_eq_false fun h => h2 h.2.1
      go_wp2
      go_ret
      exact ⟨rfl, HB1.out⟩
  · obtain rfl : bb = false := by rw [HBB.out]; exact decide_eq_false fun h => h1 h.1
    go_wp2
    go_ret
    exact ⟨rfl, HB1.out⟩
theorem rch_fwd {g : XG} {a x : Int} : Rch (nxt g) [a] x ↔ Rc g a x := by
  constructor
  · intro h
    induction h with
    | base h => rw [List.mem_singleton.1 h]; exact .refl _ _
    | step _ hy ih => exact ih.trans (Rc.edge (mem_nxt.1 hy))
  · intro h
    rcases h with rfl | h
    · exact .base (List.mem_singleton.2 rfl)
    · induction h with
      | single h => exact (Rch.base (List.mem_singleton.2 rfl)).step (mem_nxt.2 h)
      | tail _ h ih => exact ih.step (mem_nxt.2 h)
theorem reachL_len (g : XG) (a : Int) : (reachL g [a]).length ≤ 4096 := by
  unfold reachL
  split
  · rename_i h
    unfold reachE at h
    split at h
    · rename_i hk
      have hg := chkF_good.1 hk
      rw [if_neg (by simp)] at h
      split at h
      · rename_i hn
        simp at hn
        have hr := nodeB_iff.1 hn
        rw [sortI_length]
        have hb := bfs_nxt hg (src := [a]) (fun x hx => by rw [List.mem_singleton.1 hx]; exact hr)
        have := nodup_len _ _ hb.1 hb.2.1
        have := hg.n0
        have := hg.n1
        omega
      · omega
    · omega
  · simp
def wayB (g : XG) (a b : Int) : Bool := decide (reachE g [a] = 0 ∧ b ∈ reachL g [a])
set_option maxHeartbeats 1000000 in
set_option maxRecDepth 100000 in
theorem way_c (g : XG) (E : Option Addr) (d : Nat) (a b : Int) (w : World) (h : GAt w E g) (hl : g.es.length ≤ 4611686018427387904) :
    Calls Try.prog 43 #[g.val E d, .int .i64 a, .int .i64 b] w fun e w' => e = .returned (.bool (wayB g a b)) ∧ Below w.heap.size w w' := by
  have hrc := fun X W h hr => greach_c g E d [a] X 1 W h hl hr (by simp)
  have hbx := box_at (w := w) (t := 24) g E d
  have hv : g.val E d = .agg #[.int .i64 g.n, .slice E g.es.length d] := rfl
  rw [hv] at hrc ⊢
  simp only [List.length_singleton] at hrc
  obtain ⟨bb, hbb⟩ : ∃ bb, bb = wayB g a b := ⟨_, rfl⟩
  rw [← hbb]
  unfold wayB at hbb
  obtain ⟨kk, hkk⟩ : ∃ kk, kk = reachE g [a] := ⟨_, rfl⟩
  obtain ⟨ll, hll⟩ : ∃ ll, ll = reachL g [a] := ⟨_, rfl⟩
  rw [← hkk, ← hll] at hbb hrc
  have hlen : ll.length ≤ 4611686018427387904 := by have := reachL_len g a; rw [hll]; omega
  have HRC := Lib.hid hrc
  have HG := Lib.hid h
  have HBB := Lib.hid hbb
  have hb1 := hbx.bel
  have c0 := hbx.c0
  have c1 := hbx.c1
  obtain ⟨wb, hwb⟩ : ∃ wb, wb = w.alloc (.cells #[.int .i64 g.n, .slice E g.es.length d] 24) := ⟨_, rfl⟩
  rw [← hwb] at hb1 c0 c1
  obtain ⟨w2, hw2⟩ : ∃ w2, w2 = wb.alloc (.cells #[.int .i64 a] 3) := ⟨_, rfl⟩
  obtain ⟨xb, hxb⟩ : ∃ xb, xb = wb.heap.size := ⟨_, rfl⟩
  have hb2 : Below w.heap.size w w2 := by rw [hw2]; exact hb1.alloc hb1.size _
  have hlit : RowAt w2 (some ⟨xb, 0, none⟩) (I [a]) := by rw [hw2, hxb]; exact row_lit 3 wb [a]
  have HB2 := Lib.hid hb2
  have HC := Lib.hid (HRC.out _ _ (HG.out.below hb2) hlit)
  have HWB := Lib.hid hwb
  have HW2 := Lib.hid hw2
  have HXB := Lib.hid hxb
  clear hv h hrc hbb hbx hb1 hkk hll hb2 hlit hwb hw2 hxb HRC
  go_enter Try.func43, Try.ntmps43
  go_upto_region 1 with (fail)
  rw [← HWB.out]
  go_wp2_with fail
  go_at_call 19
  rw [← HW2.out, ← HXB.out]
  refine HC.out.mono ?_
  rintro e w1 ⟨X, dx, rfl, hr, hb⟩
  have HB3 := Lib.hid (HB2.out.trans (hb.mono HB2.out.size))
  have HR := Lib.hid hr
  clear hb hr c0 c1
  by_cases hk : kk = 0
  · subst hk
    go_wp2_with fail
    go_at_call 70
    refine (has_c dx b HR.out hlen).mono ?_
    rintro e w2 ⟨rfl, rfl⟩
    obtain ⟨q, hq⟩ : ∃ q, q = decide (b ∈ ll) := ⟨_, rfl⟩
    obtain rfl : bb = q := by rw [HBB.out, hq]; simp
    rw [← hq]
    clear hq
    go_wp2
    go_ret
    exact ⟨rfl, HB3.out⟩
  · have hkb : (kk == 0) = false := by simpa using hk
    obtain rfl : bb = false := by rw [HBB.out]; exact decide_eq_false fun h => hk h.1
    go_wp2
    go_ret
    exact ⟨rfl, HB3.out⟩
theorem wayB_iff {g : XG} (hg : Good g) {a b : Int} (ha : 0 ≤ a ∧ a < g.n) : wayB g a b = true ↔ Rc g a b := by
  have he : reachE g [a] = 0 := by
    unfold reachE
    rw [if_pos (chkF_good.2 hg), if_neg (by simp), if_pos (by simpa using nodeB_iff.2 ha)]
  unfold wayB reachL
  rw [decide_eq_true_eq, if_pos he, (sortI_perm _).mem_iff, (bfs_nxt hg (src := [a]) (fun x hx => by rw [List.mem_singleton.1 hx]; exact ha)).2.2, rch_fwd]
  simp [he]
end Go.Proofs.Ytpdfcffeinbcaaa
