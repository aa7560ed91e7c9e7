/- The law SchedScripted: scripted by the places that another scheduler's picks had, it picks as that does. -/
import Derived.Test.YtbgnchddeklmeaaK31
namespace Go.Proofs.Ytbgnchddeklmeaa
open Go.RowKit
theorem info_ints : (Try.prog.info? 30).map (fun i => (i.zero, i.size, i.bytes)) = some (some (.slice none 0 0), 1, 24) := by kernel_rfl
theorem or_one {v : Nat} (hv : v < 18446744073709551616) : bits BinOp.or IntKind.u64 (v : Int) 1 = ((v ||| 1 : Nat) : Int) ∧ v ||| 1 < 18446744073709551616 :=
  ⟨bits_or_u64_nat v 1 hv (by omega), Nat.or_lt_two_pow (n := 64) hv (by omega)⟩
theorem zero_mem (v : Nat) : (0 : Int) ∈ someL (v ||| 1) 30 := by
  rw [mem_someL]
  exact ⟨by omega, by omega, by simp⟩
/-- The places, while the row is gone over. -/
def upP (xs : List Int) (p k : Nat) : List Int := if p < k then xs ++ [(p : Int)] else xs
theorem good_len {es : List XPick} (f : XPick → Int) : (es.map f).length = es.length := List.length_map _
/-- What holds while picks are made. -/
structure Mid (B T s : Nat) (w0 : World) (wr : World) (P Q R : Value) (es : List XPick) : Prop where
  scr : Scr T wr P Q R (es.map XPick.pl) (es.map XPick.m) es es
  one : OneAt B T wr s es.length
  top : T ≤ wr.heap.size
  bel : Below B w0 wr
  good : ∀ q ∈ es, q.good
set_option maxHeartbeats 8000000 in
set_option maxRecDepth 100000 in
theorem law_scripted (x : XRule) (X : Option Addr) (d : Nat) (bs : List Nat) (Xb : Option Addr) (db : Nat) (w : World) (hr : RowAt w X (I x.list)) (hl : x.list.length ≤ 17592186044416) (hb : RowAt w Xb (U bs)) (hbl : bs.length ≤ 1048576) (hbu : ∀ v ∈ bs, v < 18446744073709551616) :
    Calls Try.prog 6 #[x.val X d, .slice Xb bs.length db] w fun e w' => e = .returned (.bool true) ∧ Below w.heap.size w w' := by
  have HMK : ∀ w1, Below w.heap.size w w1 → Calls Try.prog 15 #[x.val X d] w1 (Made x.k x.p w1) := fun w1 h => made15_c x X d w1 (hr.below h) hl
  obtain ⟨kk, hkk⟩ : ∃ kk, kk = x.k := ⟨_, rfl⟩
  obtain ⟨pp, hpp⟩ : ∃ pp, pp = x.p := ⟨_, rfl⟩
  rw [← hkk, ← hpp] at HMK
  clear hkk hpp hr
  obtain ⟨pol, steps, depth, list, seed⟩ := x
  unfold XRule.val at HMK ⊢
  simp only at HMK ⊢ hl
  have HM := Lib.hid HMK
  have HB := Lib.hid hb
  have HBU := Lib.hid hbu
  have hal : ∀ o, Below w.heap.size w (w.alloc o) := fun o => (Below.refl _ _).alloc (Nat.le_refl _) o
  have HAL := Lib.hid hal
  clear HMK hb hbu hal
  go_enter Try.func6, Try.ntmps6
  go_wp2_with fail
  go_at_call 7
  refine (works_c _).mono ?_
  rintro e w1 ⟨rfl, hb1⟩
  have hb1' : Below w.heap.size w w1 := (HAL.out _).trans (hb1.mono (HAL.out _).size)
  obtain ⟨hc1, hf1⟩ := bcell hb1
  have c0 := hc1 w.heap.size 0 (by simp)
  have c1 := hc1 w.heap.size 1 (by simp)
  have c2 := hc1 w.heap.size 2 (by simp)
  have c3 := hc1 w.heap.size 3 (by simp)
  have c4 := hc1 w.heap.size 4 (by simp)
  simp at c0 c1 c2 c3 c4
  have HB1 := Lib.hid hb1'
  clear hc1 hf1 hb1 hb1'
  go_wp2_with fail
  go_at_call 15
  refine (HM.out _ HB1.out).mono ?_
  rintro e w2 hM2
  clear c0 c1 c2 c3 c4
  rcases made_cases hM2 with ⟨hk, s, rfl, hf⟩ | ⟨hk, rfl, hbb⟩
  · have HT := Lib.hid (one_start HB1.out hf)
    have HB2 := Lib.hid (HB1.out.trans (hf.2.mono HB1.out.size))
    subst hk
    clear hf hM2 HM
    go_wp2
    have hmid0 : Mid w.heap.size w2.heap.size s w w2 (.slice none 0 0) (.slice none 0 0) (.slice none 0 0) [] := ⟨scr_start _ _, HT.out, Nat.le_refl _, HB2.out, by simp⟩
    go_loopw [7, 8, 9, 37] (fun P Q R i wr => ∃ es, i = .int .i64 (es.length : Int) ∧ es.length ≤ bs.length ∧ Mid w.heap.size w2.heap.size s w wr P Q R es) (fun _ _ _ i _ => bs.length - (intOf i).toNat)
    case atStart => exact ⟨[], rfl, Nat.zero_le _, hmid0⟩
    case round =>
      obtain ⟨es, rfl, hj, hmid⟩ := hrel
      by_cases hlt : es.length < bs.length
      · have hlt2 : (es.length : Int) < (bs.length : Int) := by omega
        have hj0 : (0 : Int) ≤ (es.length : Int) := by omega
        obtain ⟨b, off, rfl, _, hcj⟩ := (HB.out.below hmid.bel).u64 hlt
        have hvj := HBU.out _ (List.getElem_mem hlt)
        obtain ⟨v, hv⟩ : ∃ v, v = bs[es.length] := ⟨_, rfl⟩
        rw [← hv] at hcj hvj
        obtain ⟨hor, hor2⟩ := or_one hvj
        obtain ⟨vv, hvv⟩ : ∃ vv, vv = v ||| 1 := ⟨_, rfl⟩
        have hmem := zero_mem v
        rw [← hvv] at hor hor2 hmem
        have HOR := Lib.hid hor
        have HOR2 := Lib.hid hor2
        have HMEM := Lib.hid hmem
        have HMID := Lib.hid hmid
        clear hv hmid hor hor2 hvv hmem
        go_wp2_with fail
        go_at_call 11
        refine (HOR.out ▸ some_own vv 30 _ HOR2.out (by omega) : Calls Try.prog 11 #[.int .u64 (bits BinOp.or IntKind.u64 v 1), .int .i64 30] wr _).mono ?_
        rintro e w5 ⟨Y, d5, rfl, ho5, hb5⟩
        have h0m : 0 < (someL vv 30).length := List.length_pos_of_mem HMEM.out
        have hll := someL_length vv 30
        have hpw := someL_lt vv 30
        have hrd := ready_some (X := vv) (n := 30) (by omega) h0m
        obtain ⟨l, hl⟩ : ∃ l, l = someL vv 30 := ⟨_, rfl⟩
        rw [← hl] at ho5 hll hpw hrd h0m ⊢
        obtain ⟨g5, cap5, hv5, _, _⟩ := ho5.form h0m
        obtain ⟨rfl, _, rfl⟩ := Value.slice.inj hv5
        have hone5 := HMID.out.one.below hb5
        have hbel5 := HMID.out.bel.trans (hb5.mono HMID.out.bel.size)
        have htop5 : w2.heap.size ≤ w5.heap.size := Nat.le_trans HMID.out.top hb5.size
        have hrow5 : RowAt w5 (some ⟨g5, 0, none⟩) (I l) := by obtain ⟨Y2, d2, hv, hr⟩ := own_row1 ho5; obtain ⟨rfl, _, _⟩ := Value.slice.inj hv; exact hr
        have hg5 : w2.heap.size ≤ g5 := by have := (ho5.lt g5 rfl).1; have := HMID.out.top; omega
        have hscr5 : ∀ p, Scr w2.heap.size w5 u7 u8 u9 (es.map XPick.pl) (es.map XPick.m) es (es ++ [⟨l, g5, d5, p⟩]) := fun p => HMID.out.scr.add hb5 ⟨l, g5, d5, p⟩ ho5 HMID.out.top
        have HONE5 := Lib.hid hone5
        have HSCR5 := Lib.hid hscr5
        have HROW5 := Lib.hid hrow5
        have HBEL5 := Lib.hid hbel5
        have HPW := Lib.hid hpw
        have HRD := Lib.hid hrd
        have HGD := Lib.hid HMID.out.good
        clear ho5 hone5 hscr5 hrow5 hbel5 hpw hrd hl hb5 hv5 HMID HMEM HOR HOR2 hcj hvj
        go_wp2_with fail
        go_at_call 10
        refine (HONE5.out.next d5 HROW5.out HRD.out (by omega)).mono ?_
        rintro e w6 ⟨p, M, hp, rfl, hone6, hM6, hMk⟩
        have hscr6 := (HSCR5.out p).moves hM6 (fun k hk => (hMk k hk).2)
        have hbel6 : Below w.heap.size w w6 := HBEL5.out.trans (hM6.below HBEL5.out.size (fun k hk => (hMk k hk).1))
        have htop6 : w2.heap.size ≤ w6.heap.size := Nat.le_trans htop5 hM6.2.2.2.1
        obtain ⟨n, hn⟩ : ∃ n, n = l.getD p 0 := ⟨_, rfl⟩
        have hpe := fun i hi => place_eq HPW.out (i := i) hi hp
        rw [← hn] at hpe ⊢
        have HONE6 := Lib.hid hone6
        have HSCR6 := Lib.hid hscr6
        have HBEL6 := Lib.hid hbel6
        have HPE := Lib.hid hpe
        have HN := Lib.hid hn
        clear hone6 hscr6 hbel6 hpe hn HSCR5 HONE5 HROW5 hM6 hMk
        go_wp2_with fail
        go_loopw [7, 54] (fun P i wr => ∃ k : Nat, i = .int .i64 k ∧ k ≤ l.length ∧ Scr w2.heap.size wr P u8 u9 (upP (es.map XPick.pl) p k) (es.map XPick.m) es (es ++ [⟨l, g5, d5, p⟩]) ∧ OneAt w.heap.size w2.heap.size wr s (es.length + 1) ∧ w2.heap.size ≤ wr.heap.size ∧ Below w.heap.size w wr) (fun _ i _ => l.length - (intOf i).toNat)
        case atStart => exact ⟨0, rfl, by omega, HSCR6.out, HONE6.out, htop6, HBEL6.out⟩
        case round =>
          obtain ⟨k, rfl, hk, hscr, hone, htop, hbel⟩ := hrel
          by_cases hlk : k < l.length
          · have hk0 : (0 : Int) ≤ (k : Int) := by omega
            have hk1 : (k : Int) < (l.length : Int) := by omega
            have hck : wr.cell? ⟨g5, k, none⟩ = some (.int .i64 l[k]) := by
              have h3 := (hscr.rows _ (List.mem_append_right _ (List.mem_singleton.2 rfl))).1.cells (g := g5) rfl k (.int .i64 l[k]) (by simp [hlk])
              rwa [add_zero] at h3
            obtain ⟨m, hm⟩ : ∃ m, m = l[k] := ⟨_, rfl⟩
            have hpe := HPE.out k hlk
            rw [← hm] at hck hpe
            have HM := Lib.hid hm
            have HSCR := Lib.hid hscr
            have HONE := Lib.hid hone
            have HBEL := Lib.hid hbel
            clear hm hscr hone hbel
            by_cases hkp : k = p
            · subst hkp
              have hmn : (m == n) = true := by rw [beq_iff_eq]; exact hpe.2 rfl
              have hup : upP (es.map XPick.pl) k (k + 1) = es.map XPick.pl ++ [(k : Int)] := by unfold upP; rw [if_pos (by omega)]
              have hup0 : upP (es.map XPick.pl) k k = es.map XPick.pl := by unfold upP; rw [if_neg (by omega)]
              have hscr := HSCR.out
              rw [hup0] at hscr
              have hsc1 := hscr.own1
              have hxl : (es.map XPick.pl).length = es.length := good_len _
              have hil : (I (es.map XPick.pl)).length = es.length := by simp
              have HOWN := Lib.hid (show wr.ownsRow w2.heap.size 3 1 u7 (I (es.map XPick.pl)).length (I (es.map XPick.pl)) by rw [hil, ← hxl]; exact hsc1)
              have HS := Lib.hid hscr
              have HUP := Lib.hid hup
              have HIL := Lib.hid hil
              clear hup hup0 hscr hsc1 hxl hil hpe
              go_wp2_with (at_builtin; refine app_new w2.heap.size (by rfl) _ _ 30 3 (.int .i64 0) 8 (by rfl) Try.underlying30 info_int rfl _ (I (es.map XPick.pl)) (.int .i64 (k : Int)) (by rfl) _ (by rfl) rfl rfl HOWN.out htop (by have := HIL.out; omega) (by have := HIL.out; omega) ?_; intro v7 w7 ho7 hg7 hb7 hs7)
              have HB7 := Lib.hid hb7
              clear hb7
              go_roundw
              case rel => exact ⟨k + 1, by go_num, by omega, by rw [HUP.out]; exact HS.out.app1 ho7 hg7 HB7.out, HONE.out.grown hg7 HS.out.low1, by omega, HBEL.out.grown hg7 HBEL.out.size (fun r e => by have := HS.out.low1 r e; have := HONE.out; obtain ⟨lo, n, p, last, count, often, i1, i2, _⟩ := this; omega)⟩
              case measure => simp [intOf]; omega
            · have hmn : (m == n) = false := by rw [beq_eq_false_iff_ne]; exact fun e => hkp (hpe.1 e)
              have hup : upP (es.map XPick.pl) p (k + 1) = upP (es.map XPick.pl) p k := by
                unfold upP
                by_cases hc : p < k
                · rw [if_pos hc, if_pos (by omega)]
                · rw [if_neg hc, if_neg (by omega)]
              have HUP := Lib.hid hup
              clear hup hpe
              go_wp2
              go_roundw
              case rel => exact ⟨k + 1, by go_num, by omega, by rw [HUP.out]; exact HSCR.out, HONE.out, htop, HBEL.out⟩
              case measure => simp [intOf]; omega
          · have hge : ¬ (k : Int) < (l.length : Int) := by omega
            have hup : upP (es.map XPick.pl) p k = es.map XPick.pl ++ [(p : Int)] := by unfold upP; rw [if_pos (by omega)]
            rw [hup] at hscr
            have hil : (I (es.map XPick.m)).length = es.length := by simp
            have hil3 : (es.map XPick.val).length = es.length := by simp
            have HOWN2 := Lib.hid (show wr.ownsRow w2.heap.size 3 1 u8 (I (es.map XPick.m)).length (I (es.map XPick.m)) by have := hscr.own2; rw [hil]; rwa [good_len] at this)
            have HSCR := Lib.hid hscr
            have HONE := Lib.hid hone
            have HBEL := Lib.hid hbel
            have HIL := Lib.hid hil
            have HIL3 := Lib.hid hil3
            have HW2 : w.heap.size ≤ w2.heap.size := by obtain ⟨lo, n, p, last, count, often, i1, i2, _⟩ := hone; omega
            clear hscr hone hbel hil hil3 hup
            go_wp2_with (first | (at_builtin; refine app_new w2.heap.size (by rfl) _ _ 30 3 (.int .i64 0) 8 (by rfl) Try.underlying30 info_int rfl _ (I (es.map XPick.m)) (.int .i64 n) (by rfl) _ (by rfl) rfl rfl HOWN2.out htop (by have := HIL.out; omega) (by have := HIL.out; omega) ?_; intro v7 w7 ho7 hg7 hb7 hs7; have hsc7 := Lib.hid (HSCR.out.app2 ho7 hg7 hb7); have hlo7 := Lib.hid HSCR.out.low2; have HG7 := Lib.hid hg7; clear hb7 ho7 hg7) | (at_builtin; refine app_new w2.heap.size (by rfl) _ _ 45 30 (.slice none 0 0) 24 (by rfl) Try.underlying45 info_ints rfl _ (es.map XPick.val) (.slice (some ⟨g5, 0, none⟩) l.length d5) (by rfl) _ (by rfl) rfl rfl (show w7.ownsRow w2.heap.size 30 1 u9 (es.map XPick.val).length (es.map XPick.val) by have := hsc7.out.own3; rw [HIL3.out]; exact this) (by omega) (by have := HIL3.out; omega) (by have := HIL3.out; omega) ?_; intro v8 w8 ho8 hg8 hb8 hs8))
            have hsc8 := (hsc7.out.app3 (z := ⟨l, g5, d5, p⟩) ho8 hg8 hb8)
            have hlo8 := hsc7.out.low3
            have HSC8 := Lib.hid hsc8
            have HLO8 := Lib.hid hlo8
            have HG8 := Lib.hid hg8
            clear hsc8 hlo8 hb8 ho8 hg8
            go_roundw
            case rel =>
              refine ⟨es ++ [⟨l, g5, d5, p⟩], by simp, by simp; omega, ?_, ?_, by omega, ?_, ?_⟩
              · have := HSC8.out
                rw [HN.out] at this
                rw [List.map_append, List.map_append]
                exact this
              · have := (HONE.out.grown HG7.out hlo7.out).grown HG8.out HLO8.out
                rw [List.length_append]
                exact this
              · exact (HBEL.out.grown HG7.out HBEL.out.size (fun r e => by have := hlo7.out r e; omega)).grown HG8.out (by have := HBEL.out.size; omega) (fun r e => by have := HLO8.out r e; omega)
              · intro q hq
                rcases List.mem_append.1 hq with hq | hq
                · exact HGD.out q hq
                · obtain rfl : q = ⟨l, g5, d5, p⟩ := by simpa using hq
                  exact ⟨HRD.out, hp⟩
            case measure => simp [intOf]; omega
      · have hge : ¬ (es.length : Int) < (bs.length : Int) := by omega
        obtain ⟨wo, rfl⟩ : ∃ wo : World, wo = wr := ⟨_, rfl⟩
        have hsc := hmid.scr
        have hxl : (es.map XPick.pl).length = es.length := good_len _
        have hyl : (es.map XPick.m).length = es.length := good_len _
        obtain ⟨X1, d1, hv1, hr1⟩ := own_row1 hsc.own1
        obtain ⟨X2, d2, hv2, hr2⟩ := own_row1 hsc.own2
        obtain ⟨X3, d3, hv3, hr3⟩ := own_row1 hsc.own3
        rw [List.length_map, hxl] at hv1
        rw [List.length_map, hyl] at hv2
        rw [List.length_map] at hv3
        subst hv1 hv2 hv3
        have HMID := Lib.hid hmid
        have HR1 := Lib.hid hr1
        have HR2 := Lib.hid hr2
        have HR3 := Lib.hid hr3
        have HXL := Lib.hid hxl
        clear hmid hsc hr1 hr2 hr3 hxl hyl
        by_cases hlong : 4096 < es.length
        · have hlong2 : (4096 : Int) < (es.length : Int) := by omega
          go_wp2
          go_ret
          exact ⟨rfl, HMID.out.bel⟩
        · have hlong2 : ¬ (4096 : Int) < (es.length : Int) := by omega
          have hE : scriptedE (es.map XPick.pl) = 0 := by
            unfold scriptedE
            rw [if_neg (by rw [good_len]; exact hlong), if_neg]
            rw [Bool.not_eq_true, List.any_eq_false]
            intro x hx
            obtain ⟨q, _, rfl⟩ := List.mem_map.1 hx
            unfold negF XPick.pl
            simp
          have hsc := scripted_c d1 HR1.out (by rw [good_len]; omega)
          rw [hE, good_len] at hsc
          have HSC := Lib.hid hsc
          clear hE hsc
          go_wp2_with fail
          go_at_call 17
          refine HSC.out.mono ?_
          rintro e w4 hM4
          obtain ⟨t, rfl, hf4⟩ : ∃ t, e = .returned (.tuple #[.pointer (some ⟨t, 0, none⟩), .int .i64 0]) ∧ Fresh wo w4 t (polOf 4 (es.map XPick.pl) 0) := by
            rcases made_cases hM4 with ⟨_, t, he, hf⟩ | ⟨h0, _⟩
            · exact ⟨t, he, hf⟩
            · exact absurd rfl h0
          have HF4 := Lib.hid hf4
          clear hM4 hf4
          go_wp2
          go_loopw [100] (fun i wr => ∃ (k : Nat), i = .int .i64 k ∧ k ≤ es.length ∧ (∃ last often, SAt wr wo.heap.size (w4.heap.size - wo.heap.size) t (polOf 4 (es.map XPick.pl) 0) last (k : Int) often ∧ OftOk often (k : Int)) ∧ w4.heap.size ≤ wr.heap.size ∧ Below wo.heap.size wo wr) (fun i _ => es.length - (intOf i).toNat)
          case atStart => exact ⟨0, rfl, by omega, ⟨_, _, HF4.out.1, ok0⟩, Nat.le_refl _, HF4.out.2⟩
          case round =>
            obtain ⟨k, rfl, hk, hS, hs4, hbel⟩ := hrel
            by_cases hlk : k < es.length
            · have hk0 : (0 : Int) ≤ (k : Int) := by omega
              have hk1 : (k : Int) < (es.length : Int) := by omega
              obtain ⟨q, hq⟩ : ∃ q, q = es[k] := ⟨_, rfl⟩
              have hqm : q ∈ es := by rw [hq]; exact List.getElem_mem hlk
              obtain ⟨hrdy, hpl⟩ := HMID.out.good q hqm
              obtain ⟨b3, o3, rfl, hb3, hc3⟩ : ∃ b off, X3 = some ⟨b, off, none⟩ ∧ b < wo.heap.size ∧ wo.cell? ⟨b, off + k, none⟩ = some q.val := by
                rcases HR3.out with h | ⟨b, off, e, hb, hc⟩
                · rw [List.map_eq_nil_iff.1 h] at hlk; simp at hlk
                · exact ⟨b, off, e, hb, by rw [hc k (by simpa using hlk), hq]; simp⟩
              obtain ⟨b2, o2, rfl, hb2, hc2⟩ : ∃ b off, X2 = some ⟨b, off, none⟩ ∧ b < wo.heap.size ∧ wo.cell? ⟨b, off + k, none⟩ = some (.int .i64 (q.l.getD q.p 0)) := by
                rcases HR2.out with h | ⟨b, off, e, hb, hc⟩
                · have := congrArg List.length h; simp at this; rw [this] at hlk; simp at hlk
                · exact ⟨b, off, e, hb, by rw [hc k (by simpa using hlk), hq]; simp [XPick.m]⟩
              have hrow := (HMID.out.scr.rows q hqm).1
              obtain ⟨l, g, dq, p⟩ := q
              have hr5 : RowAt wr (some ⟨g, 0, none⟩) (I l) := by
                obtain ⟨Y2, dd, hv, hr⟩ := own_row1 hrow
                obtain ⟨rfl, _, _⟩ := Value.slice.inj hv
                exact hr.below hbel
              have hps : (es.map XPick.pl)[k]'(by rw [good_len]; exact hlk) = (p : Int) := by rw [List.getElem_map, ← hq]; rfl
              obtain ⟨last, often, hSA, hoo⟩ := hS
              have hnx := next_script dq hSA hoo hr5 hrdy (by rw [good_len]; exact hlk) hps hpl (by omega)
              have e3 : wr.cell? ⟨b3, o3 + k, none⟩ = some (.slice (some ⟨g, 0, none⟩) l.length dq) := (hbel.cell (p := ⟨b3, o3 + k, none⟩) hb3).trans hc3
              have e2 : wr.cell? ⟨b2, o2 + k, none⟩ = some (.int .i64 (l.getD p 0)) := (hbel.cell (p := ⟨b2, o2 + k, none⟩) hb2).trans hc2
              simp only at hpl
              generalize l.getD p 0 = m at *
              have HNX := Lib.hid hnx
              have HB5 := Lib.hid hbel
              have HBB3 := Lib.hid hb3
              have HBB2 := Lib.hid hb2
              have HE2 := Lib.hid e2
              clear hq hqm hrdy hc2 hc3 hrow hr5 hps hSA hoo hnx hbel hb3 hb2 e2 hpl
              go_wp2_with fail
              go_at_call 10
              refine HNX.out.mono ?_
              rintro e w6 ⟨rfl, hS6, hM6⟩
              have hbel6 : Below wo.heap.size wr w6 := hM6.below HB5.out.size (fun j hj => (mem_ring.1 hj).1)
              have e2 : w6.cell? ⟨b2, o2 + k, none⟩ = some (.int .i64 m) := (hbel6.cell (p := ⟨b2, o2 + k, none⟩) HBB2.out).trans HE2.out
              have HS6 := Lib.hid hS6
              have hs6 : w4.heap.size ≤ w6.heap.size := Nat.le_trans hs4 hM6.2.2.2.1
              have HB6 := Lib.hid (HB5.out.trans (hbel6.mono (Nat.le_refl _)))
              clear hS6 hM6 hbel6 e3
              go_wp2
              go_roundw
              case rel => exact ⟨k + 1, by go_num, by omega, HS6.out, hs6, HB6.out⟩
              case measure => simp [intOf]; omega
            · have hge2 : ¬ (k : Int) < (es.length : Int) := by omega
              have hkl : k = es.length := by omega
              obtain ⟨last, often, hSA, _⟩ := hS
              have hcn := count_c hSA
              rw [hkl] at hcn
              have HCN := Lib.hid hcn
              have HB5 := Lib.hid hbel
              clear hSA hcn hbel hkl
              go_wp2_with (go_at_call 16; refine HCN.out.mono ?_; rintro e w7 ⟨rfl, rfl⟩)
              go_ret
              exact ⟨by simp, HMID.out.bel.trans (HB5.out.mono HMID.out.bel.size)⟩
  · have HK := Lib.hid hk
    have HBB := Lib.hid (HB1.out.trans (hbb.mono HB1.out.size))
    have hkb : (kk != 0) = true := by simpa using HK.out
    clear hM2 hk hbb
    go_wp2
    go_ret
    exact ⟨rfl, HBB.out⟩
end Go.Proofs.Ytbgnchddeklmeaa
