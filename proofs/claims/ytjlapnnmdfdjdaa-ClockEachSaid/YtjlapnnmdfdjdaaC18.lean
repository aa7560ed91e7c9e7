/- A clock in memory: Advance. -/
import Derived.Test.YtjlapnnmdfdjdaaC17
namespace Go.Proofs.Ytjlapnnmdfdjdaa
open Go.RowKit
def lenOf : Value → Nat
  | .slice _ n _ => n
  | _ => 0
theorem adv_no {B s : Nat} {w : World} {c : Clk} (h : CAt B s w c) (hf : c.Fine) {t : Int} (hc : t < 0 ∨ 1099511627776 - c.now < t) : Calls Try.prog 12 #[cV s, .int .i64 t] w (AdvPost B s w c t) := by
  have hn0 := hf.ok.now0
  have hn1 := hf.ok.now1
  have c0 := h.now
  have e1 : c.adv t = (c, [], 1) := by unfold Clk.adv; rw [if_pos hc]
  have FIN : Hid (AdvPost B s w c t (.returned (.tuple #[.slice none 0 0, .int .i64 1])) w) := Lib.hid (by
    unfold AdvPost
    rw [e1]
    exact ⟨_, rfl, own_none _ _ _ _, h, HMoves.refl _ _ _, fun g _ e => by simp [Value.ownBlock] at e⟩)
  obtain ⟨n, hn⟩ : ∃ n, n = c.now := ⟨_, rfl⟩
  rw [← hn] at c0 hn0 hn1 hc
  clear h hf e1 hn
  by_cases h1 : t < 0
  · clear hc
    go_enter Try.func12, Try.ntmps12
    go_wp2
    go_ret2
    exact FIN.out
  · have h2 : 1099511627776 - n < t := hc.resolve_left h1
    clear hc
    go_enter Try.func12, Try.ntmps12
    go_wp2
    go_ret2
    exact FIN.out
theorem take_cap {T : Int} {H : List Tm} {j : Nat} (h : j < H.length) : ((H.take (j + 1)).map (capN T)).sum = ((H.take j).map (capN T)).sum + capN T H[j]! := by
  rw [List.take_succ_eq_append_getElem h, List.map_append, List.sum_append, getElem!_pos H j h]
  simp
set_option maxRecDepth 100000 in
set_option maxHeartbeats 4000000 in
theorem adv_c {B s : Nat} {w : World} {c : Clk} (h : CAt B s w c) (hf : c.Fine) (t : Int) : Calls Try.prog 12 #[cV s, .int .i64 t] w (AdvPost B s w c t) := by
  by_cases hc : t < 0 ∨ 1099511627776 - c.now < t
  · exact adv_no h hf hc
  have h' := h
  obtain ⟨c0, c1, H, ⟨hq, hfi⟩, hh⟩ := h
  have hn0 := hf.ok.now0
  have hn1 := hf.ok.now1
  have hl : H.length ≤ 1024 := by rw [hh.length]; exact hf.ok.len
  have hsw := hq.lt
  obtain ⟨v, c2, hz, ho, hne, hB⟩ := id hq
  obtain ⟨X, cap, rfl, _⟩ := own_rowS ho
  have h1 : ¬ t < 0 := by omega
  have h2 : ¬ 1099511627776 - c.now < t := by omega
  obtain ⟨n, hn⟩ : ∃ n, n = c.now := ⟨_, rfl⟩
  have hT : 0 ≤ n + t ∧ n + t ≤ 1099511627776 := by omega
  have hE : ∀ x ∈ H, (0 ≤ x.a ∧ x.a ≤ 1099511627776) ∧ (0 ≤ x.e ∧ x.e ≤ 1099511627776) := fun x hx => by
    have := hf.ok.fit.rng x (hh.perm.mem_iff.1 hx)
    omega
  have hcnt : cnt (n + t) H = cnt (n + t) c.L := cnt_perm hh.perm
  have HC := Lib.hid h'
  have HQ := Lib.hid hq
  have HF := Lib.hid hf
  have HFI := Lib.hid hfi
  have HH := Lib.hid hh
  have HO := Lib.hid ho
  have HE := Lib.hid hE
  have HCN := Lib.hid hcnt
  have HNN := Lib.hid hn
  have HNC := Lib.hid hc
  rw [← hn] at c0 hn0 hn1 h2
  clear hc h' hq hf hfi hh ho hE hcnt hz hne hn
  go_enter Try.func12, Try.ntmps12
  go_wp2
  go_loopw [34, 7] (fun i m wr => ∃ j q : Nat, i = .int .i64 j ∧ m = .int .i64 q ∧ j ≤ H.length ∧ q ≤ 4096 ∧ q = ((H.take j).map (capN (n + t))).sum ∧ Below w.heap.size w wr) (fun i _ _ => H.length - (intOf i).toNat)
  case atStart => exact ⟨0, 0, rfl, rfl, Nat.zero_le _, Nat.zero_le _, by simp, Below.refl _ _⟩
  case round =>
    obtain ⟨j, q, rfl, rfl, hj, hq, hs, hb⟩ := hrel
    have HB := Lib.hid hb
    have HS := Lib.hid hs
    clear hb hs
    by_cases hlt : j < H.length
    · obtain ⟨g, cap', hv, _, _⟩ := HO.out.form (by omega : 0 < H.length)
      cases hv
      obtain ⟨d1, d2, d3⟩ := own_tm HO.out hlt
      have hg : g < w.heap.size := World.block_lt_of_cell? w _ d1
      rw [← HB.out.cell hg] at d1 d2 d3
      obtain ⟨x, hx⟩ : ∃ x, x = H[j]! := ⟨_, rfl⟩
      have hxm := HE.out x (by rw [hx, getElem!_pos H j hlt]; exact List.getElem_mem hlt)
      have htc := take_cap (T := n + t) hlt
      rw [← hx] at d1 d2 d3 htc
      obtain ⟨xn, xa, xe⟩ := x
      simp only at d1 d2 d3 hxm
      obtain ⟨W1, hW1⟩ : ∃ W1, W1 = wr.alloc (.cells #[.int .i64 xn, .int .i64 xa, .int .i64 xe] 39) := ⟨_, rfl⟩
      have hb1 : Below w.heap.size w W1 := by rw [hW1]; exact HB.out.alloc HB.out.size _
      have hfr := firings_c (t := ⟨xn, xa, xe⟩) (T := n + t) hxm.1 hxm.2 hT W1
      obtain ⟨u, hu⟩ : ∃ u, u = capN (n + t) ⟨xn, xa, xe⟩ := ⟨_, rfl⟩
      rw [← hu] at hfr htc
      have hu2 : u ≤ 4097 := by rw [hu]; unfold capN; omega
      unfold Tm.val at hfr
      simp only at hfr
      have HFR := Lib.hid hfr
      have HB1 := Lib.hid hb1
      have HTC := Lib.hid htc
      have HW1 := Lib.hid hW1
      have hj0 : (0 : Int) ≤ (j : Int) := by omega
      have hj1 : (j : Int) < (H.length : Int) := by omega
      clear hfr hb1 htc hW1 hu hx hxm
      by_cases hbig : 4096 < q + u
      · have hbig2 : (4096 : Int) < (q : Int) + (u : Int) := by omega
        have FIN : Hid (∀ w', Below w.heap.size w w' → AdvPost B s w c t (.returned (.tuple #[.slice none 0 0, .int .i64 3])) w') := Lib.hid fun w' hb => by
          have h4 : 4096 < cnt (c.now + t) c.L := by
            rw [← HNN.out, ← HCN.out]
            refine (cap_cnt (n + t) H).resolve_left (fun h => ?_)
            have := h (j + 1) (by omega)
            rw [HTC.out, ← HS.out] at this
            omega
          have e1 : c.adv t = (c, [], 3) := by unfold Clk.adv; rw [if_neg HNC.out, if_pos h4]
          unfold AdvPost
          rw [e1]
          obtain ⟨hcb, hmb⟩ := HC.out.below hb
          exact ⟨_, rfl, own_none _ _ _ _, hcb, hmb, fun g _ e => by simp [Value.ownBlock] at e⟩
        go_wp2_with fail
        rw [← HW1.out]
        go_wp2_with (go_at_call 27; refine HFR.out.mono ?_; rintro e w2 ⟨rfl, hb2⟩)
        go_ret2
        exact FIN.out _ (HB1.out.trans (hb2.mono HB1.out.size))
      · have hbig2 : ¬ (4096 : Int) < (q : Int) + (u : Int) := by omega
        go_wp2_with fail
        rw [← HW1.out]
        go_wp2_with (go_at_call 27; refine HFR.out.mono ?_; rintro e w2 ⟨rfl, hb2⟩)
        go_roundw
        case rel => exact ⟨j + 1, q + u, by go_num, by go_num, by omega, by omega, by rw [HTC.out, ← HS.out], HB1.out.trans (hb2.mono HB1.out.size)⟩
        case measure => simp [intOf]; omega
    · have hge : ¬ (j : Int) < (H.length : Int) := by omega
      obtain rfl : j = H.length := by omega
      have hq4 : ¬ 4096 < cnt (n + t) c.L := by
        have hs := HS.out
        rw [List.take_length] at hs
        rw [← HCN.out, ← cap_all (n + t) H (by omega), ← hs]
        omega
      have hw0 := HQ.out.below HB.out
      have hcb := HC.out.below HB.out
      have hwb := HRow.beside hw0.1 (k := 0) (by omega) (.int .i64 (n + t))
      have c2r : wr.cell? ⟨s, 2, none⟩ = some (.slice X H.length cap) := (HB.out.cell hsw).trans c2
      have c0r : wr.cell? ⟨s, 0, none⟩ = some (.int .i64 n) := (HB.out.cell hsw).trans c0
      have z0r : wr.frozen? ⟨s, 0, none⟩ = false := by obtain ⟨_, _, z, _⟩ := hw0.1; exact z 0
      have hstart : AInv B s w c (n + t) 0 (.slice none 0 0) (wr.setCell ⟨s, 0, none⟩ (.int .i64 (n + t))) := by
        refine ⟨Nat.zero_le _, ⟨set_here _ _ _ _ _ c0r, (set_far _ _ _ _ _ (by omega)).trans hcb.1.last, H, ⟨hwb.1, HFI.out⟩, HH.out⟩, own_none _ _ _ _, hcb.2.trans hwb.2, fun g _ e => by simp [Value.ownBlock] at e⟩
      have HST := Lib.hid hstart
      have HQ4 := Lib.hid hq4
      clear hw0 hcb hwb hstart hq4 HS HB HCN HE
      go_wp2
      go_loopw [10] (fun v wq => ∃ (vo : Value) (k : Nat), v = vo ∧ AInv B s w c (n + t) k vo wq) (fun v _ => 4096 - lenOf v)
      case atStart => exact ⟨_, 0, rfl, HST.out⟩
      case round =>
        obtain ⟨vo, k, rfl, hi⟩ := hrel
        have HI := Lib.hid hi
        have hfit := fires_round («to» := n + t) (now := c.now) hT.2 k c.L HF.out.ok.fit hi.le
        obtain ⟨hle, ⟨a0, a1, H2, ⟨q2, f2⟩, hh2⟩, own, mv, dis⟩ := hi
        have hl2 := hh2.length
        have hk4 : k ≤ 4096 := by have := HQ4.out; omega
        simp only at a0 a1 hh2 hl2
        obtain ⟨vq, e2, hz2, ho2, hne2, hB2⟩ := id q2
        obtain ⟨X2, d2, rfl, _⟩ := own_rowS own
        have FIN : Hid (∀ w', w' = wr → (∀ x l, (fires (n + t) k c.L).2 = x :: l → n + t < x.a) → AdvPost B s w c t (.returned (.tuple #[.slice X2 k d2, .int .i64 0])) w') := Lib.hid fun w' h1 h2 => by
          subst h1
          have h3 := HI.out
          have h4 := HQ4.out
          rw [HNN.out] at h2 h3 h4
          exact h3.done HF.out HNC.out h4 h2
        have hfires : ∀ x l, (fires (n + t) k c.L).2 = x :: l → x.a ≤ n + t → fires (n + t) (k + 1) c.L = ((fires (n + t) k c.L).1 ++ [(x.n, x.a)], fire1 x l) ∧ k + 1 ≤ cnt (n + t) c.L := fun x l h1 h2 => fires_next (now := c.now) hT.2 HF.out.ok.fit hle h1 h2
        have HFS := Lib.hid hfires
        have HFT := Lib.hid hfit
        have HH2 := Lib.hid hh2
        have HMV := Lib.hid mv
        have HDS := Lib.hid dis
        have HOW := Lib.hid own
        have HQ2 := Lib.hid q2
        have HF2 := Lib.hid f2
        have HO2 := Lib.hid ho2
        clear hfires hfit hh2 mv dis own q2 f2 hz2 hne2 hB2
        obtain ⟨fs, hfs⟩ : ∃ fs, fs = (fires (n + t) k c.L).1 := ⟨_, rfl⟩
        cases hL : (fires (n + t) k c.L).2 with
        | nil =>
          have hl0 : H2.length = 0 := by rw [hl2, hL]; rfl
          obtain ⟨X3, d3, rfl, _⟩ := own_rowS ho2
          rw [hl0] at e2
          have FIN2 := Lib.hid (FIN.out _ rfl (fun x l h => by rw [hL] at h; cases h))
          clear ho2 hl2 hL hfs
          go_wp2
          go_ret2
          exact FIN2.out
        | cons x l =>
          have hl0 : 0 < H2.length := by rw [hl2, hL]; simp
          rw [hL] at HH2 hl2
          have hft := HFT.out.2.2
          rw [hL] at hft
          have hfst := HH2.out.first hft.sor
          have hxr := hft.rng x List.mem_cons_self
          obtain ⟨g, cap2, rfl, _, _⟩ := ho2.form hl0
          obtain ⟨e3, e4, e5⟩ := own_tm ho2 hl0
          rw [hfst] at e3 e4 e5
          simp only [Nat.zero_mul, Nat.zero_add] at e3 e4 e5
          have hl1 : (0 : Int) < (H2.length : Int) := by omega
          have HXF := Lib.hid hfst
          have HFT2 := Lib.hid hft
          have HL := Lib.hid hL
          by_cases hx : x.a ≤ n + t
          · obtain ⟨hF, hk1⟩ := HFS.out x l hL hx
            have hf1 : x.n ≤ x.n ∧ 0 ≤ x.a ∧ 0 ≤ x.e := by have := HF.out.ok.now0; omega
            have hxf : Fine x := by
              have := HF2.out H2[0]! (by rw [getElem!_pos H2 0 hl0]; exact List.getElem_mem hl0)
              rw [hfst] at this; exact this
            obtain ⟨xn, xa, xe⟩ := x
            simp only at e3 e4 e5 hx hxr hF hf1
            have hz2 : wr.frozen? ⟨g, 1, none⟩ = false := own_frozen ho2 _
            obtain ⟨nb, hnb⟩ : ∃ nb, nb = wr.heap.size := ⟨_, rfl⟩
            have hw : w.heap.size ≤ wr.heap.size := HMV.out.1.2.2.2.1
            have hgl : g < wr.heap.size := World.block_lt_of_cell? wr _ e3
            have hsl : s < wr.heap.size := World.block_lt_of_cell? wr _ e2
            have hgb : g ∈ blkAt s 2 wr := by rw [blkAt_some e2]; simp [Value.ownBlock]
            have hgo : (Value.slice X2 k d2).ownBlock ≠ some g := HDS.out g hgb
            obtain ⟨W1, hW1⟩ : ∃ W1, W1 = wr.alloc (.cells #[.int .i64 xn, .int .i64 xa, .int .i64 xe] 39) := ⟨_, rfl⟩
            have hs1 : W1.heap.size = wr.heap.size + 1 := by rw [hW1, al_size]
            have hb1 : Below wr.heap.size wr W1 := by rw [hW1]; exact (Below.refl _ _).alloc (Nat.le_refl _) _
            have k0 : W1.cell? ⟨nb, 0, none⟩ = some (.int .i64 xn) := by rw [hW1, hnb]; exact cell_new _ _ _ _
            have k1 : W1.cell? ⟨nb, 1, none⟩ = some (.int .i64 xa) := by rw [hW1, hnb]; exact cell_new _ _ _ _
            have k2 : W1.cell? ⟨nb, 2, none⟩ = some (.int .i64 xe) := by rw [hW1, hnb]; exact cell_new _ _ _ _
            have ho1 : W1.ownsRow w.heap.size 41 2 (.slice X2 k d2) k (frC fs) := by rw [hW1, hfs]; exact HOW.out.alloc _
            have hnbo : (Value.slice X2 k d2).ownBlock ≠ some nb := fun e => by have := (HOW.out.lt _ e).2; omega
            -- behind the append
            have hap : ∀ v5 w5, w5.ownsRow w.heap.size 41 2 v5 (k + 1) (frC fs ++ [.int .i64 xn, .int .i64 xa]) → W1.grownBy w5 (Value.slice X2 k d2).ownBlock → (v5.ownBlock = (Value.slice X2 k d2).ownBlock ∨ v5.ownBlock = some (W1.heap.size + 1)) →
                QAt B s w5 H2 ∧ HMoves s 2 w w5 ∧ (∀ q ∈ blkAt s 2 w5, v5.ownBlock ≠ some q) ∧ (∀ q, w5.cell? ⟨s, q, none⟩ = wr.cell? ⟨s, q, none⟩) ∧ (∀ q, w5.cell? ⟨g, q, none⟩ = wr.cell? ⟨g, q, none⟩) ∧ w5.frozen? ⟨g, 1, none⟩ = false ∧ ∀ q, w5.cell? ⟨nb, q, none⟩ = W1.cell? ⟨nb, q, none⟩ := fun v5 w5 h1 h2 h3 => by
              have hg : wr.grownBy w5 (Value.slice X2 k d2).ownBlock := World.grownBy.trans ⟨hb1.os, hb1.tape, hb1.output, hb1.size, fun k hk _ => hb1.block k hk⟩ h2
              obtain ⟨p1, p2, p3, p4⟩ := app_step HQ2.out HOW.out HDS.out hsw rfl hg (v1 := v5) (fun q hq => h3.imp (fun h => h.symm.trans hq) (fun h => by rw [h] at hq; cases hq; omega)) HMV.out
              have hmg : Moves (Value.slice X2 k d2).ownBlock.toList wr w5 := Moves.of_grown hg (by intro k e; simp [e])
              have hmn : Moves (Value.slice X2 k d2).ownBlock.toList W1 w5 := Moves.of_grown h2 (by intro k e; simp [e])
              exact ⟨p1, p2, p3, p4, fun q => hmg.cell hgl (by simpa using hgo) q, (hmg.frozen hgl (by simpa using hgo) 1).trans hz2, fun q => hmn.cell (by omega) (by simpa using hnbo) q⟩
            have HAP := Lib.hid hap
            have HFE := Lib.hid hfs
            have HO1 := Lib.hid ho1
            have HW1 := Lib.hid hW1
            have HS1 := Lib.hid hs1
            have HNB := Lib.hid hnb
            have HFF := Lib.hid hF
            have HXR := Lib.hid hxr
            have HXFI := Lib.hid hxf
            have K0 := Lib.hid k0
            have K1 := Lib.hid k1
            have K2 := Lib.hid k2
            have hk5 : k + 1 ≤ 4096 := by have := HQ4.out; omega
            obtain ⟨hx1, hx2⟩ := hf1.2
            have hxb : xa ≤ 1099511627776 := hxr.2.1
            have hxe : xe ≤ 1099511627776 := hxr.2.2.2
            have hL1 : 0 < H2.length := hl0
            have hHL : H2.length ≤ 1099511627776 := by
              have h5 := fires_length («to» := n + t) k c.L
              rw [hL, ← hl2] at h5
              have := HF.out.ok.len
              omega
            clear hap ho1 hW1 hs1 hnb hF hxr hxf hgo hgb hnbo hb1 hz2 ho2 hfs hl2 hL hft hfst hf1 hgl hsl k0 k1 k2
            by_cases hc1 : 0 < xe ∧ xe ≤ 1099511627776 - xa
            · obtain ⟨hc2, hc3⟩ := hc1
              go_wp2_with (at_builtin; rw [← HW1.out]; go_loud (refine app_newK w.heap.size (by rfl) _ _ 28 41 (.agg #[.int .i64 0, .int .i64 0]) 2 16 (by rfl) Try.underlying28 info_fr rfl (by decide) _ k (frC fs) [.int .i64 xn, .int .i64 xa] (by rfl) _ (by rfl) (by rw [HS1.out]) rfl (by simp [Value.oneCell']) HO1.out (by rw [HS1.out]; omega) (by omega) (by omega) ?_; intro v5 w5 ho5 hg5 hb5 hs5; obtain ⟨p1, p2, p3, p4, p5, p6, p7⟩ := HAP.out v5 w5 ho5 hg5 hb5; obtain ⟨X5, d5, rfl, _, _⟩ := own_rowS ho5; have P1 := Lib.hid p1; have P2 := Lib.hid p2; have P3 := Lib.hid p3; have HO5 := Lib.hid ho5; have k0 := (p7 0).trans K0.out; have k1 := (p7 1).trans K1.out; have k2 := (p7 2).trans K2.out; have e2' := (p4 2).trans e2; have e4' := (p5 1).trans e4; have A0 := Lib.hid ((p4 0).trans a0); have A1 := Lib.hid ((p4 1).trans a1); rw [← HNB.out]; clear p1 p2 p3 p4 p5 p7 ho5 hg5 hb5 hs5 e2 e3 e4 e5 a0 a1))
              have hF1 : fire1 ⟨xn, xa, xe⟩ l = laid ⟨xn, xa + xe, xe⟩ l := by unfold fire1; rw [if_pos ⟨hc2, hc3⟩]
              have hwrp : IntKind.i64.wrap (xa + xe) = xa + xe := by simp [IntKind.wrap, IntKind.bits, IntKind.signed]; omega
              have hqa := q_at P1.out e2' (j := 0) hL1 (xa + xe)
              rw [HXF.out] at hqa
              simp only [Nat.zero_mul, Nat.zero_add] at hqa
              obtain ⟨W6, hW6⟩ : ∃ W6, W6 = (w5.setCell ⟨g, 1, none⟩ (.int .i64 (xa + xe))) := ⟨_, rfl⟩
              rw [← hW6] at hqa
              have hq6 : QR B s W6.drew (H2.set 0 ⟨xn, xa + xe, xe⟩) ∧ QMoves s w5 W6.drew := ⟨⟨hqa.1, fun y hy => by
                rcases List.mem_or_eq_of_mem_set hy with hy | rfl
                · exact HF2.out y hy
                · have := HXFI.out
                  unfold Fine at this ⊢
                  simp only at this ⊢
                  omega⟩, hqa.2⟩
              have hfix : Calls Try.prog 28 #[.iface 64 (qV s), .int .i64 0] W6.drew (FixPost Tm.lt (QR B s) (QMoves s) (H2.set 0 ⟨xn, xa + xe, xe⟩) W6.drew) :=
                fix_c (q_ops B s) tm_ord (i := 0) hq6.1 (HH2.out.near hL1 ⟨xn, xa + xe, xe⟩) (by rw [List.length_set]; exact hL1) (by rw [List.length_set]; exact hHL)
              have FIX : Hid (∀ w', FixPost Tm.lt (QR B s) (QMoves s) (H2.set 0 ⟨xn, xa + xe, xe⟩) W6.drew (.returned (.tuple #[])) w' → AInv B s w c (n + t) (k + 1) (.slice X5 (k + 1) d5) w') := Lib.hid fun w' h => by
                obtain ⟨_, H', hr, hp, hhp, hm⟩ := h
                have hfx := HH2.out.fixed HFT2.out.nod hL1 hp hhp
                rw [HXF.out, without_cons rfl HFT2.out.fresh] at hfx
                exact AInv.next hk1 (HFF.out.trans (by rw [hF1, HFE.out])) HO5.out P2.out P3.out hsw A0.out A1.out (hq6.2.trans hm) hr hfx
              have HFIX := Lib.hid hfix
              have HW6 := Lib.hid hW6
              have HWR := Lib.hid hwrp
              clear hF1 hqa hq6 hfix hW6 hwrp
              have e2 := e2'
              have e3 := e4'
              clear e2' e4'
              go_wp2_with fail
              -- begin put
              refine region_heldL (L := 12) (S := (fun w' => w'.cell? ⟨s, 2, none⟩ = some (.slice (some ⟨g, 0, none⟩) H2.length cap2) ∧ w'.cell? ⟨g, 1, none⟩ = some (.int .i64 xa) ∧ w'.cell? ⟨nb, 2, none⟩ = some (.int .i64 xe))) (by kernel_rfl) ?gxs (fun hHeld => ?gxr)
              case gxs => exact ⟨e2, e3, k2⟩
              refine takeL (i := 0) (d := 92) (v := ?gxv0) rfl (by rfl) (by kernel_rfl) (by kernel_rfl) (by kernel_rfl) (by kernel_rfl) (by rfl) (fun _ _ _ h => h) (Or.inl ⟨by rfl, ?gxy0⟩) (by assumption) ?gxr0
              case gxy0 => intro w' hSw; obtain ⟨q1, q2, q3⟩ := hSw; go_simp; (try with_reducible rfl)
              case' gxr0 => simp only [Act.put, List.setIfInBounds_toArray, List.set_cons_zero, List.set_cons_succ]
              refine takeL (i := 1) (d := 93) (v := ?gxv1) rfl (by rfl) (by kernel_rfl) (by kernel_rfl) (by kernel_rfl) (by kernel_rfl) (by rfl) (fun _ _ _ h => h) (Or.inl ⟨by rfl, ?gxy1⟩) (by assumption) ?gxr1
              case gxy1 => intro w' hSw; obtain ⟨q1, q2, q3⟩ := hSw; go_simp; (try with_reducible rfl)
              case' gxr1 => simp only [Act.put, List.setIfInBounds_toArray, List.set_cons_zero, List.set_cons_succ]
              refine takeL (i := 2) (d := 94) (v := ?gxv2) rfl (by rfl) (by kernel_rfl) (by kernel_rfl) (by kernel_rfl) (by kernel_rfl) (by rfl) (fun _ _ _ h => h) (Or.inl ⟨by rfl, ?gxy2⟩) (by assumption) ?gxr2
              case gxy2 => intro w' hSw; obtain ⟨q1, q2, q3⟩ := hSw; go_simp; (try with_reducible rfl)
              case' gxr2 => simp only [Act.put, List.setIfInBounds_toArray, List.set_cons_zero, List.set_cons_succ]
              refine takeL (i := 3) (d := 95) (v := ?gxv3) rfl (by rfl) (by kernel_rfl) (by kernel_rfl) (by kernel_rfl) (by kernel_rfl) (by rfl) (fun _ _ _ h => h) (Or.inl ⟨by rfl, ?gxy3⟩) (by assumption) ?gxr3
              case gxy3 => intro w' hSw; obtain ⟨q1, q2, q3⟩ := hSw; go_simp; (try with_reducible rfl)
              case' gxr3 => simp only [Act.put, List.setIfInBounds_toArray, List.set_cons_zero, List.set_cons_succ]
              refine takeL (i := 4) (d := 96) (v := ?gxv4) rfl (by rfl) (by kernel_rfl) (by kernel_rfl) (by kernel_rfl) (by kernel_rfl) (by rfl) (fun _ _ _ h => h) (Or.inl ⟨by rfl, ?gxy4⟩) (by assumption) ?gxr4
              case gxy4 => intro w' hSw; obtain ⟨q1, q2, q3⟩ := hSw; go_simp; (try with_reducible rfl)
              case' gxr4 => simp only [Act.put, List.setIfInBounds_toArray, List.set_cons_zero, List.set_cons_succ]
              refine takeL (i := 5) (d := 97) (v := ?gxv5) rfl (by rfl) (by kernel_rfl) (by kernel_rfl) (by kernel_rfl) (by kernel_rfl) (by rfl) (fun _ _ _ h => h) (Or.inl ⟨by rfl, ?gxy5⟩) (by assumption) ?gxr5
              case gxy5 => intro w' hSw; obtain ⟨q1, q2, q3⟩ := hSw; go_simp; (try with_reducible rfl)
              case' gxr5 => simp only [Act.put, List.setIfInBounds_toArray, List.set_cons_zero, List.set_cons_succ]
              refine takeL (i := 6) (d := 98) (v := ?gxv6) rfl (by rfl) (by kernel_rfl) (by kernel_rfl) (by kernel_rfl) (by kernel_rfl) (by rfl) (fun _ _ _ h => h) (Or.inl ⟨by rfl, ?gxy6⟩) (by assumption) ?gxr6
              case gxy6 => intro w' hSw; obtain ⟨q1, q2, q3⟩ := hSw; go_simp; (try with_reducible rfl)
              case' gxr6 => simp only [Act.put, List.setIfInBounds_toArray, List.set_cons_zero, List.set_cons_succ]
              refine takeL (i := 7) (d := 99) (v := ?gxv7) rfl (by rfl) (by kernel_rfl) (by kernel_rfl) (by kernel_rfl) (by kernel_rfl) (by rfl) (fun _ _ _ h => h) (Or.inl ⟨by rfl, ?gxy7⟩) (by assumption) ?gxr7
              case gxy7 => intro w' hSw; obtain ⟨q1, q2, q3⟩ := hSw; go_simp; (try with_reducible rfl)
              case' gxr7 => simp only [Act.put, List.setIfInBounds_toArray, List.set_cons_zero, List.set_cons_succ]
              refine takeL (i := 8) (d := 100) (v := ?gxv8) rfl (by rfl) (by kernel_rfl) (by kernel_rfl) (by kernel_rfl) (by kernel_rfl) (by rfl) (fun _ _ _ h => h) (Or.inl ⟨by rfl, ?gxy8⟩) (by assumption) ?gxr8
              case gxy8 => intro w' hSw; obtain ⟨q1, q2, q3⟩ := hSw; go_simp; (try with_reducible rfl)
              case' gxr8 => simp only [Act.put, List.setIfInBounds_toArray, List.set_cons_zero, List.set_cons_succ]
              refine takeL (i := 9) (d := 101) (v := ?gxv9) rfl (by rfl) (by kernel_rfl) (by kernel_rfl) (by kernel_rfl) (by kernel_rfl) (by rfl) (fun _ _ _ h => h) (Or.inl ⟨by rfl, ?gxy9⟩) (by assumption) ?gxr9
              case gxy9 => intro w' hSw; obtain ⟨q1, q2, q3⟩ := hSw; go_simp; (try with_reducible rfl)
              case' gxr9 => simp only [Act.put, List.setIfInBounds_toArray, List.set_cons_zero, List.set_cons_succ]
              refine takeP (i := 10) (d := 102) (v := ?gxv10) rfl (by rfl) (by kernel_rfl) (by kernel_rfl) (by kernel_rfl) (by rfl) (fun _ _ _ h => h) (Or.inl ⟨by rfl, ?gxy10⟩) (by assumption) ?gxr10
              case gxy10 => intro w' _; go_simp; (try with_reducible rfl)
              case' gxr10 => simp only [Act.put, List.setIfInBounds_toArray, List.set_cons_zero, List.set_cons_succ]
              refine takeL (i := 11) (d := 103) (v := ?gxv11) rfl (by rfl) (by kernel_rfl) (by kernel_rfl) (by kernel_rfl) (by kernel_rfl) (by rfl) (fun _ _ _ h => h) (Or.inl ⟨by rfl, ?gxy11⟩) (by assumption) ?gxr11
              case gxy11 => intro w' hSw; obtain ⟨q1, q2, q3⟩ := hSw; go_simp; (try with_reducible rfl)
              case' gxr11 => simp only [Act.put, List.setIfInBounds_toArray, List.set_cons_zero, List.set_cons_succ]
              refine stepM (i := 12) (by kernel_rfl) rfl (by kernel_rfl) (fun K hK => ?gxb12)
              go_simp
              refine hK.out _ _ ?gxr12
              case' gxr12 => (clear hK K; try simp only [Act.put, List.setIfInBounds_toArray, List.set_cons_zero, List.set_cons_succ])
              refine doneM (by kernel_rfl) ?gxz
              -- end put
              rw [HWR.out, ← HW6.out]
              go_wp2_with (go_at_call 28; refine HFIX.out.mono ?_; rintro e w7 ⟨rfl, hr⟩)
              go_roundw
              case rel => exact ⟨_, k + 1, rfl, FIX.out _ ⟨rfl, hr⟩⟩
              case measure => simp [lenOf]; omega
            · have hF1 : fire1 ⟨xn, xa, xe⟩ l = l := by unfold fire1; rw [if_neg hc1]
              have HF1 := Lib.hid hF1
              clear hF1
              by_cases hc2 : 0 < xe
              · have hc3 : ¬ xe ≤ 1099511627776 - xa := fun h => hc1 ⟨hc2, h⟩
                clear hc1
                go_wp2_with (at_builtin; rw [← HW1.out]; go_loud (refine app_newK w.heap.size (by rfl) _ _ 28 41 (.agg #[.int .i64 0, .int .i64 0]) 2 16 (by rfl) Try.underlying28 info_fr rfl (by decide) _ k (frC fs) [.int .i64 xn, .int .i64 xa] (by rfl) _ (by rfl) (by rw [HS1.out]) rfl (by simp [Value.oneCell']) HO1.out (by rw [HS1.out]; omega) (by omega) (by omega) ?_; intro v5 w5 ho5 hg5 hb5 hs5; obtain ⟨p1, p2, p3, p4, p5, p6, p7⟩ := HAP.out v5 w5 ho5 hg5 hb5; obtain ⟨X5, d5, rfl, _, _⟩ := own_rowS ho5; have P1 := Lib.hid p1; have P2 := Lib.hid p2; have P3 := Lib.hid p3; have HO5 := Lib.hid ho5; have k0 := (p7 0).trans K0.out; have k1 := (p7 1).trans K1.out; have k2 := (p7 2).trans K2.out; have e2' := (p4 2).trans e2; have A0 := Lib.hid ((p4 0).trans a0); have A1 := Lib.hid ((p4 1).trans a1); rw [← HNB.out]; clear p1 p2 p3 p4 p5 p7 ho5 hg5 hb5 hs5 e2 e3 e4 e5 a0 a1))
                have hpop : Calls Try.prog 29 #[.iface 64 (qV s)] w5 (PopPost Tm.lt encT (QR B s) (QMoves s) H2 w5) := pop_c (q_ops B s) (q_ends B s) tm_ord ⟨P1.out, HF2.out⟩ HH2.out.heap hL1 hHL
                have POP : Hid (∀ w', PopPost Tm.lt encT (QR B s) (QMoves s) H2 w5 (.returned (encT H2[0]!)) w' → AInv B s w c (n + t) (k + 1) (.slice X5 (k + 1) d5) w') := Lib.hid fun w' h => by
                  obtain ⟨_, H', hr, hp, hhp, hm⟩ := h
                  exact AInv.next hk1 (HFF.out.trans (by rw [HF1.out, HFE.out])) HO5.out P2.out P3.out hsw A0.out A1.out hm hr (HH2.out.popped HFT2.out.sor hp hhp)
                have HPOP := Lib.hid hpop
                clear hpop
                go_wp2_with (go_at_call 29; refine HPOP.out.mono ?_; rintro e w7 ⟨rfl, hr⟩)
                go_roundw
                case rel => exact ⟨_, k + 1, rfl, POP.out _ ⟨rfl, hr⟩⟩
                case measure => simp [lenOf]; omega
              · clear hc1
                go_wp2_with (at_builtin; rw [← HW1.out]; go_loud (refine app_newK w.heap.size (by rfl) _ _ 28 41 (.agg #[.int .i64 0, .int .i64 0]) 2 16 (by rfl) Try.underlying28 info_fr rfl (by decide) _ k (frC fs) [.int .i64 xn, .int .i64 xa] (by rfl) _ (by rfl) (by rw [HS1.out]) rfl (by simp [Value.oneCell']) HO1.out (by rw [HS1.out]; omega) (by omega) (by omega) ?_; intro v5 w5 ho5 hg5 hb5 hs5; obtain ⟨p1, p2, p3, p4, p5, p6, p7⟩ := HAP.out v5 w5 ho5 hg5 hb5; obtain ⟨X5, d5, rfl, _, _⟩ := own_rowS ho5; have P1 := Lib.hid p1; have P2 := Lib.hid p2; have P3 := Lib.hid p3; have HO5 := Lib.hid ho5; have k0 := (p7 0).trans K0.out; have k1 := (p7 1).trans K1.out; have k2 := (p7 2).trans K2.out; have e2' := (p4 2).trans e2; have A0 := Lib.hid ((p4 0).trans a0); have A1 := Lib.hid ((p4 1).trans a1); rw [← HNB.out]; clear p1 p2 p3 p4 p5 p7 ho5 hg5 hb5 hs5 e2 e3 e4 e5 a0 a1))
                have hpop : Calls Try.prog 29 #[.iface 64 (qV s)] w5 (PopPost Tm.lt encT (QR B s) (QMoves s) H2 w5) := pop_c (q_ops B s) (q_ends B s) tm_ord ⟨P1.out, HF2.out⟩ HH2.out.heap hL1 hHL
                have POP : Hid (∀ w', PopPost Tm.lt encT (QR B s) (QMoves s) H2 w5 (.returned (encT H2[0]!)) w' → AInv B s w c (n + t) (k + 1) (.slice X5 (k + 1) d5) w') := Lib.hid fun w' h => by
                  obtain ⟨_, H', hr, hp, hhp, hm⟩ := h
                  exact AInv.next hk1 (HFF.out.trans (by rw [HF1.out, HFE.out])) HO5.out P2.out P3.out hsw A0.out A1.out hm hr (HH2.out.popped HFT2.out.sor hp hhp)
                have HPOP := Lib.hid hpop
                clear hpop
                go_wp2_with (go_at_call 29; refine HPOP.out.mono ?_; rintro e w7 ⟨rfl, hr⟩)
                go_roundw
                case rel => exact ⟨_, k + 1, rfl, POP.out _ ⟨rfl, hr⟩⟩
                case measure => simp [lenOf]; omega
          · have hx2 : ¬ x.a ≤ n + t := hx
            have FIN2 := Lib.hid (FIN.out _ rfl (fun x' l' h => by rw [hL] at h; cases h; omega))
            obtain ⟨xn, xa, xe⟩ := x
            simp only at e3 e4 e5 hx2
            clear ho2 hl2 hL hfs hft hfst hxr hx
            go_wp2
            go_ret2
            exact FIN2.out
end Go.Proofs.Ytjlapnnmdfdjdaa
