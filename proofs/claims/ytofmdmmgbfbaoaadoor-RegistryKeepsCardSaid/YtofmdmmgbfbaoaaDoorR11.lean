/- The law RegistryKeeps. -/
import Derived.Test.YtofmdmmgbfbaoaaDoorR10
namespace Go.Proofs.YtofmdmmgbfbaoaaDoor
open Go.RowKit Go.Maps Go.ChangeMaps Go.WideShapes

/-- What the comparison's region keeps. -/
def SK (w : World) (bx oj : Nat) (s : ByteArray) (r7 : PRow) (b o : Nat) (r : PRow) (w' : World) : Prop := Below w.heap.size w w' ∧ w.heap.size < w'.heap.size ∧ w'.cell? ⟨bx, oj, none⟩ = some (.string s) ∧ ProvOn w' w.heap.size 0 r7 ∧ ProvOn w' b o r
theorem SK.below {w W W' : World} {bx oj : Nat} {s : ByteArray} {r7 : PRow} {b o : Nat} {r : PRow} (h : SK w bx oj s r7 b o r W) (h1 : bx < w.heap.size) (h2 : b < w.heap.size) (hb : Below W.heap.size W W') : SK w bx oj s r7 b o r W' := by
  have hs := h.1.size
  refine ⟨h.1.trans (hb.mono hs), Nat.lt_of_lt_of_le h.2.1 hb.size, (hb.cell (p := ⟨bx, oj, none⟩) (Nat.lt_of_lt_of_le h1 hs)).trans h.2.2.1, h.2.2.2.1.same fun o => hb.cell (p := ⟨w.heap.size, o, none⟩) h.2.1, h.2.2.2.2.same fun o => hb.cell (p := ⟨b, o, none⟩) (Nat.lt_of_lt_of_le h2 hs)⟩
theorem SK.drew {w W : World} {bx oj : Nat} {s : ByteArray} {r7 : PRow} {b o : Nat} {r : PRow} (h : SK w bx oj s r7 b o r W) : SK w bx oj s r7 b o r W.drew := ⟨h.1.trans ((Below.refl _ _).drew.mono h.1.size), h.2.1, h.2.2.1, h.2.2.2.1, h.2.2.2.2⟩
theorem provOn_of {w : World} {b off : Nat} {rs : List PRow} (h : ProvsAt w (some ⟨b, off, none⟩) rs) (k : Nat) (hk : k < rs.length) : ProvOn w b (off + k * 9) rs[k] := by
  rcases h.lies with h1 | ⟨b', off', e, _, hc⟩
  · rw [h1] at hk; simp at hk
  · cases e; exact hc k hk
theorem law_start {w w1 w2 : World} {rb mb : Nat} (hb1 : Below w.heap.size w w1) (hr : RegAt w2 w1.heap.size rb mb (.slice none 0 0) []) (hb2 : Below w1.heap.size w1 w2) : Law w w1.heap.size rb mb (.slice none 0 0) (.slice (some ⟨w2.heap.size, 0, none⟩) 0 0) [] [] (w2.alloc (.cells #[] 36)) := by
  refine ⟨hr.below ((Below.refl _ _).alloc (Nat.le_refl _) _), ?_, fun q hq => (by simp at hq), fun q hq => (by simp at hq), fun g hg hT => ?_, (hb1.trans (hb2.mono hb1.size)).alloc (Nat.le_trans hb1.size hb2.size) _, hb1.size⟩
  · exact World.ownsRow_made (base := w1.heap.size) w2 #[] 0 hb2.size (by simp [maxLen]) (by simp)
  · have := regT_lt hr hT
    simp [Value.ownBlock] at hg
    omega
set_option maxHeartbeats 4000000 in
set_option maxRecDepth 100000 in
theorem keeps_c (rs : List PRow) (V : Option Addr) (c : Nat) (w : World) (hx : ProvsAt w V rs) (hl : rs.length * 104 ≤ 140737488355328) (hkeys : KeysIn w) :
    Calls Tryd.prog 3 #[.slice V rs.length c] w fun e w' => e = .returned (.bool true) ∧ Below w.heap.size w w' := by
  go_enter Tryd.func3, Tryd.ntmps3
  go_wp2_with (first | (go_at_call 6; refine (works_c _ hkeys).mono ?_; rintro e w1 ⟨rfl, hb1⟩) | (go_at_call 7; refine (new_c w1).mono ?_; rintro e w2 ⟨rb, mb, rfl, hr2, hb2⟩))
  go_loopw [4, 5] (fun hv i wr => ∃ (k : Nat) (v : Value) (gs hs : List PRow), k ≤ rs.length ∧ i = .int .i64 k ∧ Law w w1.heap.size rb mb v hv gs hs wr ∧ Hid (hs.map (·.p) = gs.map (·.p))) (fun _ i _ => rs.length - (intOf i).toNat)
  case atStart => exact ⟨0, _, [], [], by omega, rfl, law_start hb1 hr2 hb2, rfl⟩
  case round =>
    obtain ⟨k, v, gs, hs, hk, rfl, hlaw, HEQ⟩ := hrel
    by_cases hlt : k < rs.length
    · rcases (hx.below hlaw.bel).lies with h | ⟨b, off, rfl, hb, hc⟩
      · rw [h] at hlt; simp at hlt
      obtain ⟨g0, g1, g2, g3, g4, g5, g6, g7, g8⟩ := hc k hlt
      have hpk := (hx.below hlaw.bel).each rs[k] (List.getElem_mem hlt)
      have hkr := hkeys.below hlaw.bel
      have hgh : hs.length = gs.length := by have := congrArg List.length HEQ.out; simpa using this
      obtain ⟨HA, hcap, hv1, _⟩ := own_provs hlaw.own (fun q hq => (hlaw.hea q hq).1)
      obtain ⟨N, hN⟩ : ∃ N : Nat, N = hs.length := ⟨_, rfl⟩
      rw [← hN] at hv1
      subst hv1
      have hNb : ((gs.length : Int) != (N : Int)) = false := by rw [hN, hgh]; simp
      have HN := Lib.hid hN
      have HGH := Lib.hid hgh
      have HLW := Lib.hid hlaw
      have HPK := Lib.hid hpk
      clear hc hN hgh hlaw hpk
      rcases add_split gs rs[k].p with ⟨h0, hM, hl6⟩ | hno
      · have hadd := add_yes wr w1.heap.size rb mb v gs rs[k].p rs[k].A rs[k].c HLW.out.reg HPK.out hkr h0 hM hl6
        have HADD := Lib.hid hadd
        clear hadd h0 hM
        go_wp2_with (first | (go_at_call 8; refine HADD.out.mono ?_; rintro e w3 ⟨rfl, vx, A3, c3, hr3, hf3, hfr3, hb3, hat3⟩; have hl3 := HLW.out.added hr3 hf3 hfr3 hb3 hat3; have HL3 := Lib.hid hl3; obtain ⟨u0, u1, u2, u3, u4, u5, u6, u7, u8⟩ := provOn_of (hx.below hl3.bel) k hlt; have hp3 := Lib.hid ((hx.below hl3.bel).each rs[k] (List.getElem_mem hlt)); clear hr3 hf3 hfr3 hb3 hat3 hl3) | (go_at_call 9; refine (copyProv_c rs[k].p rs[k].A rs[k].c _ hp3.out.ops hp3.out.len).mono ?_; rintro e w4 ⟨A4, c4, rfl, hx4, hf4, hb4⟩; have HL4 := Lib.hid (HL3.out.below hb4); have HX4 := Lib.hid hx4; clear hx4; simp only [XProv.val]) | (at_builtin; refine app_struct (w0 := w4) w1.heap.size (by rfl) _ _ 22 36 _ 9 104 (by rfl) Tryd.underlying22 info_prov rfl (by decide) (.slice HA N hcap) N (rowCells hs) (PRow.cells ⟨rs[k].p, A4, c4⟩) (by rfl) _ (by rfl) rfl rfl (by simp [PRow.cells, Value.oneCell']) (by have h1 := HL4.out.own; rw [← HN.out] at h1; exact h1) (Below.refl _ _) (by have h1 := HL4.out.reg.lo; have h2 := HL4.out.reg.rbl; omega) (by have := HN.out; have := HGH.out; omega) (by have := HN.out; have := HGH.out; omega) ?_; intro v5 w5 hown5 hb5 hg5 hn5; obtain ⟨N5, hN5⟩ : ∃ N5 : Nat, N5 = N + 1 := ⟨_, rfl⟩; obtain ⟨g5', cap5, hv5, _, _⟩ := hown5.form (by omega); obtain ⟨HX, hHX⟩ : ∃ HX : Option Addr, HX = some ⟨g5', 0, none⟩ := ⟨_, rfl⟩; rw [← hHX, ← hN5] at hv5; subst hv5; have HG5 := Lib.hid hg5; have HN55 := Lib.hid hn5; have HOW5 := Lib.hid hown5; have HB5 := Lib.hid hb5; have HNN5 := Lib.hid hN5; clear hg5 hn5 hown5 hb5 hN5 hHX))
        obtain ⟨gx, hgx⟩ : ∃ gx : List PRow, gx = gs ++ [⟨rs[k].p, A3, c3⟩] := ⟨_, rfl⟩
        obtain ⟨hx5, hhx⟩ : ∃ hx5 : List PRow, hx5 = hs ++ [⟨rs[k].p, A4, c4⟩] := ⟨_, rfl⟩
        have HL : Hid (Law w w1.heap.size rb mb vx (.slice HX N5 cap5) gx hx5 w5) := by
          have h4 := HL4.out
          have h3 := HL3.out
          rw [hgx, hhx]
          refine Law.pushed (lo := w3.heap.size) h4 ⟨HX4.out, hp3.out.len, hp3.out.name, hp3.out.ct, hp3.out.text⟩ hf4 (fun g hg => regT_lt h3.reg hg) (fun g hg => (h3.own.lt g hg).2) ?_ ?_ HG5.out HN55.out
          · have := HOW5.out
            rw [HN.out] at this
            exact this
          · exact h4.bel.trans (HB5.out.mono h4.lo)
        have HE : Hid (hx5.map (·.p) = gx.map (·.p)) := by
          show _ = _
          rw [hgx, hhx, List.map_append, List.map_append, HEQ.out]
          rfl
        have HHN : Hid (hx5.length = N5) := by
          show _ = _
          rw [hhx, HNN5.out, HN.out]; simp
        have HGN : Hid (gx.length = N5) := by
          show _ = _
          rw [hgx, HNN5.out, HN.out, HGH.out]; simp
        clear hgx hhx hf4 hb4 u0 u1 u2 u3 u4 u5 u6 u7 u8 g0 g1 g2 g3 g4 g5 g6 g7 g8 hl6 hNb
        have hN256 : N5 ≤ 256 := by have h1 := HL.out.reg.len; have h2 := HGN.out; omega
        have hb1N : ((gx.length : Int) != (N5 : Int)) = false := by rw [HGN.out]; simp
        have hb2N : (((namesL gx).length : Int) != (N5 : Int)) = false := by rw [namesL_length, HGN.out]; simp
        go_wp2_with (first | (go_at_call 10; refine (names_c _ w1.heap.size rb mb vx gx HL.out.reg).mono ?_; rintro e w6 ⟨v6, rfl, hown6, hb6⟩; obtain ⟨X6, d6, rfl, hs6, hq6⟩ := own_strs hown6; clear hq6; have HL6 := Lib.hid (HL.out.below hb6); clear hown6) | (go_at_call 11; refine (len_c _ w1.heap.size rb mb vx gx HL6.out.reg).mono ?_; rintro e w' ⟨rfl, rfl⟩))
        obtain ⟨wo, hwo⟩ : ∃ wo : World, wo = wr := ⟨_, rfl⟩
        subst hwo
        go_loopw [9] (fun i wr => ∃ j : Nat, j ≤ N5 ∧ i = .int .i64 j ∧ Below w6.heap.size w6 wr) (fun i _ => N5 - (intOf i).toNat)
        case atStart => exact ⟨0, by omega, rfl, Below.refl _ _⟩
        case round =>
          obtain ⟨j, hj, rfl, hbel⟩ := hrel
          have hL := HL6.out.below hbel
          have hbs := hbel.size
          by_cases hlj : j < N5
          · have hjg : j < gx.length := by rw [HGN.out]; exact hlj
            have hjh : j < hx5.length := by rw [HHN.out]; exact hlj
            obtain ⟨V2, c2, hv2, hps2⟩ := own_provs hL.own (fun q hq => (hL.hea q hq).1)
            have hV2 := (Value.slice.inj hv2).1
            rcases hps2.lies with h | ⟨b2, off2, e2, hb2, hc2⟩
            · rw [h] at hjh; simp at hjh
            rw [e2] at hV2
            subst hV2
            have y := hc2 j hjh
            have hpj := hps2.each hx5[j] (List.getElem_mem hjh)
            have hee : hx5[j].p = gx[j].p := by
              have := congrArg (·[j]?) HE.out
              simp [hjh, hjg] at this
              exact this
            have hfc := find_c wr w1.heap.size rb mb vx gx hx5[j].p.name hL.reg hpj.name
            rw [show findAns (namesL gx) hx5[j].p.name = ((j : Int), 0) by rw [hee]; exact find_at hL.reg.dist j hjg] at hfc
            have hgc := get_c wr w1.heap.size rb mb vx gx hL.reg j hjg
            rw [← hee] at hgc
            have hjn : j < (namesL gx).length := by rw [namesL_length]; exact hjg
            rcases hs6 with h | ⟨bx, ox, rfl, hbx, hcx⟩
            · rw [h] at hjn; simp at hjn
            have hnm := (hbel.cell (p := ⟨bx, ox + j, none⟩) hbx).trans (hcx j hjn)
            rw [namesL_get gx j hjg, ← hee] at hnm
            have hbxr : bx < wr.heap.size := Nat.lt_of_lt_of_le hbx hbs
            generalize hx5[j] = q at *
            obtain ⟨⟨n, fs, ag, p1, p2, p3, p4, ck, ct⟩, Aq, cq⟩ := q
            have hi0 : (0 : Int) ≤ (j : Int) := Int.natCast_nonneg _
            have hi1 : (j : Int) < (N5 : Int) := by omega
            have hi2 : (j : Int) < ((namesL gx).length : Int) := by omega
            have hops := hpj.ops
            have hpl := hpj.len
            obtain ⟨y0, y1, y2, y3, y4, y5, y6, y7, y8⟩ := y
            have YY := Lib.hid (show ProvOn wr b2 (off2 + j * 9) ⟨⟨n, fs, ag, p1, p2, p3, p4, ck, ct⟩, Aq, cq⟩ from ⟨y0, y1, y2, y3, y4, y5, y6, y7, y8⟩)
            have HFC := Lib.hid hfc
            have HGC := Lib.hid hgc
            have hsn : (n.toList != n.toList) = false := by simp
            clear hfc hgc hee hc2 hps2 hv2 hpj hcx hL y1 y2 y3 y4 y5 y6 y7 y8
            go_wp2_with (first | (go_at_call 12; refine HFC.out.mono ?_; rintro e w' ⟨rfl, rfl⟩) | (go_at_call 13; refine HGC.out.mono ?_; rintro e w7 ⟨A7, c7, rfl, hx7, hb7⟩; simp only [XProv.val]))
            have hs7 := hb7.size
            have h0 : SK w7 bx (ox + j) n ⟨⟨n, fs, ag, p1, p2, p3, p4, ck, ct⟩, A7, c7⟩ b2 (off2 + j * 9) ⟨⟨n, fs, ag, p1, p2, p3, p4, ck, ct⟩, Aq, cq⟩ (w7.alloc (.cells (PRow.cells ⟨⟨n, fs, ag, p1, p2, p3, p4, ck, ct⟩, A7, c7⟩).toArray 36)) := by
              have hal7 : Below w7.heap.size w7 (w7.alloc (.cells (PRow.cells ⟨⟨n, fs, ag, p1, p2, p3, p4, ck, ct⟩, A7, c7⟩).toArray 36)) := (Below.refl _ _).alloc (Nat.le_refl _) _
              refine ⟨hal7, by rw [al_size]; omega, (hal7.cell (p := ⟨bx, ox + j, none⟩) (Nat.lt_of_lt_of_le hbxr hs7)).trans ((hb7.cell (p := ⟨bx, ox + j, none⟩) hbxr).trans hnm), ?_, (YY.out.same fun o => hb7.cell (p := ⟨b2, o, none⟩) hb2).same fun o => hal7.cell (p := ⟨b2, o, none⟩) (Nat.lt_of_lt_of_le hb2 hs7)⟩
              refine ⟨?_, ?_, ?_, ?_, ?_, ?_, ?_, ?_, ?_⟩ <;> (rw [cell_new]; rfl)
            have H0 := Lib.hid h0
            have hbx7 : bx < w7.heap.size := Nat.lt_of_lt_of_le hbxr hs7
            have hb27 : b2 < w7.heap.size := Nat.lt_of_lt_of_le hb2 hs7
            clear h0
            go_region_held3 (fun w' => Below w7.heap.size w7 w' ∧ w7.heap.size < w'.heap.size ∧ w'.cell? ⟨bx, ox + j, none⟩ = some (.string n) ∧ (w'.cell? ⟨w7.heap.size, 0, none⟩ = some (.string n) ∧ w'.cell? ⟨w7.heap.size, 1, none⟩ = some (.slice A7 fs.length c7) ∧ w'.cell? ⟨w7.heap.size, 2, none⟩ = some (.bool ag) ∧ w'.cell? ⟨w7.heap.size, 3, none⟩ = some (.int .i64 p1) ∧ w'.cell? ⟨w7.heap.size, 4, none⟩ = some (.int .i64 p2) ∧ w'.cell? ⟨w7.heap.size, 5, none⟩ = some (.int .i64 p3) ∧ w'.cell? ⟨w7.heap.size, 6, none⟩ = some (.int .i64 p4) ∧ w'.cell? ⟨w7.heap.size, 7, none⟩ = some (.int .i64 ck) ∧ w'.cell? ⟨w7.heap.size, 8, none⟩ = some (.string ct)) ∧ w'.cell? ⟨b2, off2 + j * 9, none⟩ = some (.string n) ∧ w'.cell? ⟨b2, off2 + j * 9 + 1, none⟩ = some (.slice Aq fs.length cq) ∧ w'.cell? ⟨b2, off2 + j * 9 + 2, none⟩ = some (.bool ag) ∧ w'.cell? ⟨b2, off2 + j * 9 + 3, none⟩ = some (.int .i64 p1) ∧ w'.cell? ⟨b2, off2 + j * 9 + 4, none⟩ = some (.int .i64 p2) ∧ w'.cell? ⟨b2, off2 + j * 9 + 5, none⟩ = some (.int .i64 p3) ∧ w'.cell? ⟨b2, off2 + j * 9 + 6, none⟩ = some (.int .i64 p4) ∧ w'.cell? ⟨b2, off2 + j * 9 + 7, none⟩ = some (.int .i64 ck) ∧ w'.cell? ⟨b2, off2 + j * 9 + 8, none⟩ = some (.string ct))
              (first | (show SK w7 bx (ox + j) n ⟨⟨n, fs, ag, p1, p2, p3, p4, ck, ct⟩, A7, c7⟩ b2 (off2 + j * 9) ⟨⟨n, fs, ag, p1, p2, p3, p4, ck, ct⟩, Aq, cq⟩ _; first | with_reducible exact H0.out | with_reducible exact H0.out.drew | exact H0.out.drew | with_reducible exact HS.out | with_reducible exact HS.out.drew))
              ((first | (go_at_call 14; have qq : SK w7 bx (ox + j) n ⟨⟨n, fs, ag, p1, p2, p3, p4, ck, ct⟩, A7, c7⟩ b2 (off2 + j * 9) ⟨⟨n, fs, ag, p1, p2, p3, p4, ck, ct⟩, Aq, cq⟩ _ := ‹Below _ _ _ ∧ _ ∧ _ ∧ _›; refine (sameProv_c ⟨n, fs, ag, p1, p2, p3, p4, ck, ct⟩ A7 Aq c7 cq _ (hx7.below qq.1) ((hops.below hb7).below qq.1) hpl).mono ?_; rintro e w8 ⟨rfl, hb8⟩; have HS := Lib.hid (qq.below hbx7 hb27 hb8); clear qq)))
            have hfin := HS.out.1
            go_wp2
            go_roundw
            case rel => exact ⟨j + 1, by omega, by go_num, (hbel.trans (hb7.mono hbs)).trans (hfin.mono (Nat.le_trans hbs hs7))⟩
            case measure => simp [intOf]; omega
          · have HLE := Lib.hid hL
            clear hL
            go_wp2
            go_roundw
            case rel => exact ⟨k + 1, vx, gx, hx5, by omega, by go_num, HLE.out, HE.out⟩
            case measure => simp [intOf]; omega
      · have hadd := add_no wr w1.heap.size rb mb v gs rs[k].p rs[k].A rs[k].c HLW.out.reg HPK.out hkr hno
        have hnb : ((addAns (namesL gs) rs[k].p).2 == 0) = false := by simpa using hno
        have HADD := Lib.hid hadd
        clear hadd hno
        go_wp2_with (go_at_call 8; refine HADD.out.mono ?_; rintro e w5 ⟨rfl, hb5⟩; have HL := Lib.hid (HLW.out.below hb5))
        obtain ⟨gx, hgx⟩ : ∃ gx : List PRow, gx = gs := ⟨_, rfl⟩
        obtain ⟨hx5, hhx⟩ : ∃ hx5 : List PRow, hx5 = hs := ⟨_, rfl⟩
        obtain ⟨vx, hvx⟩ : ∃ vx : Value, vx = v := ⟨_, rfl⟩
        obtain ⟨N5, hN5⟩ : ∃ N5 : Nat, N5 = N := ⟨_, rfl⟩
        subst hgx hhx hvx hN5
        have HE := HEQ
        have HHN : Hid (hx5.length = N5) := HN.out.symm
        have HGN : Hid (gx.length = N5) := HGH.out.symm.trans HN.out.symm
        clear hb5 g0 g1 g2 g3 g4 g5 g6 g7 g8 hNb hnb
        have hN256 : N5 ≤ 256 := by have h1 := HL.out.reg.len; have h2 := HGN.out; omega
        have hb1N : ((gx.length : Int) != (N5 : Int)) = false := by rw [HGN.out]; simp
        have hb2N : (((namesL gx).length : Int) != (N5 : Int)) = false := by rw [namesL_length, HGN.out]; simp
        go_wp2_with (first | (go_at_call 10; refine (names_c _ w1.heap.size rb mb vx gx HL.out.reg).mono ?_; rintro e w6 ⟨v6, rfl, hown6, hb6⟩; obtain ⟨X6, d6, rfl, hs6, hq6⟩ := own_strs hown6; clear hq6; have HL6 := Lib.hid (HL.out.below hb6); clear hown6) | (go_at_call 11; refine (len_c _ w1.heap.size rb mb vx gx HL6.out.reg).mono ?_; rintro e w' ⟨rfl, rfl⟩))
        obtain ⟨wo, hwo⟩ : ∃ wo : World, wo = wr := ⟨_, rfl⟩
        subst hwo
        go_loopw [9] (fun i wr => ∃ j : Nat, j ≤ N5 ∧ i = .int .i64 j ∧ Below w6.heap.size w6 wr) (fun i _ => N5 - (intOf i).toNat)
        case atStart => exact ⟨0, by omega, rfl, Below.refl _ _⟩
        case round =>
          obtain ⟨j, hj, rfl, hbel⟩ := hrel
          have hL := HL6.out.below hbel
          have hbs := hbel.size
          by_cases hlj : j < N5
          · have hjg : j < gx.length := by rw [HGN.out]; exact hlj
            have hjh : j < hx5.length := by rw [HHN.out]; exact hlj
            obtain ⟨V2, c2, hv2, hps2⟩ := own_provs hL.own (fun q hq => (hL.hea q hq).1)
            have hV2 := (Value.slice.inj hv2).1
            rcases hps2.lies with h | ⟨b2, off2, e2, hb2, hc2⟩
            · rw [h] at hjh; simp at hjh
            rw [e2] at hV2
            subst hV2
            have y := hc2 j hjh
            have hpj := hps2.each hx5[j] (List.getElem_mem hjh)
            have hee : hx5[j].p = gx[j].p := by
              have := congrArg (·[j]?) HE.out
              simp [hjh, hjg] at this
              exact this
            have hfc := find_c wr w1.heap.size rb mb vx gx hx5[j].p.name hL.reg hpj.name
            rw [show findAns (namesL gx) hx5[j].p.name = ((j : Int), 0) by rw [hee]; exact find_at hL.reg.dist j hjg] at hfc
            have hgc := get_c wr w1.heap.size rb mb vx gx hL.reg j hjg
            rw [← hee] at hgc
            have hjn : j < (namesL gx).length := by rw [namesL_length]; exact hjg
            rcases hs6 with h | ⟨bx, ox, rfl, hbx, hcx⟩
            · rw [h] at hjn; simp at hjn
            have hnm := (hbel.cell (p := ⟨bx, ox + j, none⟩) hbx).trans (hcx j hjn)
            rw [namesL_get gx j hjg, ← hee] at hnm
            have hbxr : bx < wr.heap.size := Nat.lt_of_lt_of_le hbx hbs
            generalize hx5[j] = q at *
            obtain ⟨⟨n, fs, ag, p1, p2, p3, p4, ck, ct⟩, Aq, cq⟩ := q
            have hi0 : (0 : Int) ≤ (j : Int) := Int.natCast_nonneg _
            have hi1 : (j : Int) < (N5 : Int) := by omega
            have hi2 : (j : Int) < ((namesL gx).length : Int) := by omega
            have hops := hpj.ops
            have hpl := hpj.len
            obtain ⟨y0, y1, y2, y3, y4, y5, y6, y7, y8⟩ := y
            have YY := Lib.hid (show ProvOn wr b2 (off2 + j * 9) ⟨⟨n, fs, ag, p1, p2, p3, p4, ck, ct⟩, Aq, cq⟩ from ⟨y0, y1, y2, y3, y4, y5, y6, y7, y8⟩)
            have HFC := Lib.hid hfc
            have HGC := Lib.hid hgc
            have hsn : (n.toList != n.toList) = false := by simp
            clear hfc hgc hee hc2 hps2 hv2 hpj hcx hL y1 y2 y3 y4 y5 y6 y7 y8
            go_wp2_with (first | (go_at_call 12; refine HFC.out.mono ?_; rintro e w' ⟨rfl, rfl⟩) | (go_at_call 13; refine HGC.out.mono ?_; rintro e w7 ⟨A7, c7, rfl, hx7, hb7⟩; simp only [XProv.val]))
            have hs7 := hb7.size
            have h0 : SK w7 bx (ox + j) n ⟨⟨n, fs, ag, p1, p2, p3, p4, ck, ct⟩, A7, c7⟩ b2 (off2 + j * 9) ⟨⟨n, fs, ag, p1, p2, p3, p4, ck, ct⟩, Aq, cq⟩ (w7.alloc (.cells (PRow.cells ⟨⟨n, fs, ag, p1, p2, p3, p4, ck, ct⟩, A7, c7⟩).toArray 36)) := by
              have hal7 : Below w7.heap.size w7 (w7.alloc (.cells (PRow.cells ⟨⟨n, fs, ag, p1, p2, p3, p4, ck, ct⟩, A7, c7⟩).toArray 36)) := (Below.refl _ _).alloc (Nat.le_refl _) _
              refine ⟨hal7, by rw [al_size]; omega, (hal7.cell (p := ⟨bx, ox + j, none⟩) (Nat.lt_of_lt_of_le hbxr hs7)).trans ((hb7.cell (p := ⟨bx, ox + j, none⟩) hbxr).trans hnm), ?_, (YY.out.same fun o => hb7.cell (p := ⟨b2, o, none⟩) hb2).same fun o => hal7.cell (p := ⟨b2, o, none⟩) (Nat.lt_of_lt_of_le hb2 hs7)⟩
              refine ⟨?_, ?_, ?_, ?_, ?_, ?_, ?_, ?_, ?_⟩ <;> (rw [cell_new]; rfl)
            have H0 := Lib.hid h0
            have hbx7 : bx < w7.heap.size := Nat.lt_of_lt_of_le hbxr hs7
            have hb27 : b2 < w7.heap.size := Nat.lt_of_lt_of_le hb2 hs7
            clear h0
            go_region_held3 (fun w' => Below w7.heap.size w7 w' ∧ w7.heap.size < w'.heap.size ∧ w'.cell? ⟨bx, ox + j, none⟩ = some (.string n) ∧ (w'.cell? ⟨w7.heap.size, 0, none⟩ = some (.string n) ∧ w'.cell? ⟨w7.heap.size, 1, none⟩ = some (.slice A7 fs.length c7) ∧ w'.cell? ⟨w7.heap.size, 2, none⟩ = some (.bool ag) ∧ w'.cell? ⟨w7.heap.size, 3, none⟩ = some (.int .i64 p1) ∧ w'.cell? ⟨w7.heap.size, 4, none⟩ = some (.int .i64 p2) ∧ w'.cell? ⟨w7.heap.size, 5, none⟩ = some (.int .i64 p3) ∧ w'.cell? ⟨w7.heap.size, 6, none⟩ = some (.int .i64 p4) ∧ w'.cell? ⟨w7.heap.size, 7, none⟩ = some (.int .i64 ck) ∧ w'.cell? ⟨w7.heap.size, 8, none⟩ = some (.string ct)) ∧ w'.cell? ⟨b2, off2 + j * 9, none⟩ = some (.string n) ∧ w'.cell? ⟨b2, off2 + j * 9 + 1, none⟩ = some (.slice Aq fs.length cq) ∧ w'.cell? ⟨b2, off2 + j * 9 + 2, none⟩ = some (.bool ag) ∧ w'.cell? ⟨b2, off2 + j * 9 + 3, none⟩ = some (.int .i64 p1) ∧ w'.cell? ⟨b2, off2 + j * 9 + 4, none⟩ = some (.int .i64 p2) ∧ w'.cell? ⟨b2, off2 + j * 9 + 5, none⟩ = some (.int .i64 p3) ∧ w'.cell? ⟨b2, off2 + j * 9 + 6, none⟩ = some (.int .i64 p4) ∧ w'.cell? ⟨b2, off2 + j * 9 + 7, none⟩ = some (.int .i64 ck) ∧ w'.cell? ⟨b2, off2 + j * 9 + 8, none⟩ = some (.string ct))
              (first | (show SK w7 bx (ox + j) n ⟨⟨n, fs, ag, p1, p2, p3, p4, ck, ct⟩, A7, c7⟩ b2 (off2 + j * 9) ⟨⟨n, fs, ag, p1, p2, p3, p4, ck, ct⟩, Aq, cq⟩ _; first | with_reducible exact H0.out | with_reducible exact H0.out.drew | exact H0.out.drew | with_reducible exact HS.out | with_reducible exact HS.out.drew))
              ((first | (go_at_call 14; have qq : SK w7 bx (ox + j) n ⟨⟨n, fs, ag, p1, p2, p3, p4, ck, ct⟩, A7, c7⟩ b2 (off2 + j * 9) ⟨⟨n, fs, ag, p1, p2, p3, p4, ck, ct⟩, Aq, cq⟩ _ := ‹Below _ _ _ ∧ _ ∧ _ ∧ _›; refine (sameProv_c ⟨n, fs, ag, p1, p2, p3, p4, ck, ct⟩ A7 Aq c7 cq _ (hx7.below qq.1) ((hops.below hb7).below qq.1) hpl).mono ?_; rintro e w8 ⟨rfl, hb8⟩; have HS := Lib.hid (qq.below hbx7 hb27 hb8); clear qq)))
            have hfin := HS.out.1
            go_wp2
            go_roundw
            case rel => exact ⟨j + 1, by omega, by go_num, (hbel.trans (hb7.mono hbs)).trans (hfin.mono (Nat.le_trans hbs hs7))⟩
            case measure => simp [intOf]; omega
          · have HLE := Lib.hid hL
            clear hL
            go_wp2
            go_roundw
            case rel => exact ⟨k + 1, vx, gx, hx5, by omega, by go_num, HLE.out, HE.out⟩
            case measure => simp [intOf]; omega
    · go_wp2
      go_ret
      exact ⟨rfl, hlaw.bel⟩
end Go.Proofs.YtofmdmmgbfbaoaaDoor
