/- told: does a registry tell what the document says? -/
import Derived.Test.YtofmdmmgbfbaoaaDoorP4
namespace Go.Proofs.YtofmdmmgbfbaoaaDoor
open Go.RowKit Go.Maps Go.ChangeMaps Go.WideShapes

theorem missStep_len (N : List ByteArray) : ∀ (l out : List ByteArray), (missStep N l out).length ≤ out.length + l.length
  | [], out => by simp [missStep]
  | s :: l, out => by
    rw [missStep]
    by_cases h : memB s N = false ∧ memB s out = false
    · rw [if_pos h]; have := missStep_len N l (out ++ [s]); simp at this ⊢; omega
    · rw [if_neg h]; have := missStep_len N l out; simp at this ⊢; omega
theorem missFrom_len (N : List ByteArray) : ∀ (ps : List XProv) (out : List ByteArray), (∀ p ∈ ps, p.expr.length ≤ 256) → (missFrom N ps out).length ≤ out.length + ps.length * 256
  | [], out, _ => by simp [missFrom]
  | p :: ps, out, h => by
    rw [missFrom]
    have h1 := missFrom_len N ps (missStep N (textsF p.expr 3) out) (fun q hq => h q (by simp [hq]))
    have h2 := missStep_len N (textsF p.expr 3) out
    have h3 := texts_length (kind := 3) p.expr []
    have h4 := h p (by simp)
    have h5 : (textsF p.expr 3).length ≤ 256 := by unfold textsF; simp at h3; omega
    simp; omega
theorem missAns_len (ps : List XProv) : (missAns ps).1.length ≤ 65536 := by
  unfold missAns
  split
  · simp
  · next h =>
    have h1 := set_zero (ps := ps) (by simpa using h)
    have h2 := missFrom_len (ps.map XProv.name) ps [] (fun p hp => prov_len (h1.2.1 p hp))
    have h3 := h1.1
    show (missL ps).length ≤ _
    unfold missL
    simp at h2
    omega
theorem usersL_len (s : ByteArray) (rs : List PRow) : (usersL s rs).length ≤ rs.length := by
  unfold usersL
  rw [namesL_length]
  exact List.length_filter_le _ _
theorem namesL_of {a b : List PRow} (h : a.map (·.p) = b.map (·.p)) : namesL a = namesL b := by
  have := congrArg (List.map XProv.name) h
  rw [List.map_map, List.map_map] at this
  exact this
theorem usersL_of (s : ByteArray) {a b : List PRow} (h : a.map (·.p) = b.map (·.p)) : usersL s a = usersL s b := by
  have key : ∀ l : List PRow, usersL s l = ((l.map (·.p)).filter fun p => hasX s p.expr).map XProv.name := by
    intro l
    unfold usersL namesL
    rw [List.filter_map, List.map_map]
    rfl
  rw [key, key, h]
theorem provOn_at {w : World} {b off : Nat} {rs : List PRow} (h : ProvsAt w (some ⟨b, off, none⟩) rs) (k : Nat) (hk : k < rs.length) : ProvOn w b (off + k * 9) rs[k] := by
  rcases h.lies with h1 | ⟨b', off', e, _, hc⟩
  · rw [h1] at hk; simp at hk
  · cases e; exact hc k hk
/-- What the long comparison keeps. -/
def ST (w0 : World) (yb : Nat) (V : Option Addr) (N c : Nat) (fz : Bool) (w' : World) : Prop := Below w0.heap.size w0 w' ∧ w'.cell? ⟨yb, 0, none⟩ = some (.slice V N c) ∧ w'.cell? ⟨yb, 1, none⟩ = some (.bool fz)
theorem ST.below {w0 W W' : World} {yb : Nat} {V : Option Addr} {N c : Nat} {fz : Bool} (h : ST w0 yb V N c fz W) (hy : yb < w0.heap.size) (hb : Below W.heap.size W W') : ST w0 yb V N c fz W' := by
  have hs := h.1.size
  exact ⟨h.1.trans (hb.mono hs), (hb.cell (p := ⟨yb, 0, none⟩) (Nat.lt_of_lt_of_le hy hs)).trans h.2.1, (hb.cell (p := ⟨yb, 1, none⟩) (Nat.lt_of_lt_of_le hy hs)).trans h.2.2⟩
theorem ST.drew {w0 W : World} {yb : Nat} {V : Option Addr} {N c : Nat} {fz : Bool} (h : ST w0 yb V N c fz W) : ST w0 yb V N c fz W.drew := ⟨h.1.trans ((Below.refl _ _).drew.mono h.1.size), h.2.1, h.2.2⟩
theorem own_at {w : World} {base n c : Nat} {e : TypeId} {A : Option Addr} {es : List XOp} (h : w.ownsRow base e 4 (.slice A n c) n (opCells es)) : OpsAt w A es := by
  obtain ⟨A', c', e', hs, _⟩ := own_ops h
  rw [(Value.slice.inj e').1]
  exact hs
/-- What a comparison with one's own copy keeps. -/
def SV (w0 : World) (tb : Nat) (V : Option Addr) (N c bp : Nat) (r7 : PRow) (b o : Nat) (r : PRow) (w' : World) : Prop := Below w0.heap.size w0 w' ∧ w'.cell? ⟨tb, 0, none⟩ = some (.slice V N c) ∧ ProvOn w' bp 0 r7 ∧ ProvOn w' b o r
theorem SV.below {w0 W W' : World} {tb : Nat} {V : Option Addr} {N c bp : Nat} {r7 : PRow} {b o : Nat} {r : PRow} (h : SV w0 tb V N c bp r7 b o r W) (ht : tb < w0.heap.size) (hp : bp < w0.heap.size) (hb' : b < w0.heap.size) (hb : Below W.heap.size W W') : SV w0 tb V N c bp r7 b o r W' := by
  have hs := h.1.size
  exact ⟨h.1.trans (hb.mono hs), (hb.cell (p := ⟨tb, 0, none⟩) (Nat.lt_of_lt_of_le ht hs)).trans h.2.1, h.2.2.1.same fun o => hb.cell (p := ⟨bp, o, none⟩) (Nat.lt_of_lt_of_le hp hs), h.2.2.2.same fun o => hb.cell (p := ⟨b, o, none⟩) (Nat.lt_of_lt_of_le hb' hs)⟩
theorem SV.drew {w0 W : World} {tb : Nat} {V : Option Addr} {N c bp : Nat} {r7 : PRow} {b o : Nat} {r : PRow} (h : SV w0 tb V N c bp r7 b o r W) : SV w0 tb V N c bp r7 b o r W.drew := ⟨h.1.trans ((Below.refl _ _).drew.mono h.1.size), h.2.1, h.2.2.1, h.2.2.2⟩
set_option maxHeartbeats 4000000 in
set_option maxRecDepth 100000 in
theorem told_c (w : World) (base rb mb : Nat) (v : Value) (gs ys : List PRow) (V : Option Addr) (c : Nat) (fz : Bool) (s : ByteArray) (num : Int) (h : RegF w base rb mb v gs fz) (hy : ProvsAt w V ys) (hcap : ys.length ≤ c) (heq : ys.map (·.p) = gs.map (·.p)) (hok : ∀ q ∈ ys, provF q.p = 0) (hs : s.size ≤ 140737488355328) (hkeys : KeysIn w) :
    Calls Tryd.prog 30 #[.pointer (some ⟨rb, 0, none⟩), .agg #[.slice V ys.length c, .bool fz], .string s, .int .i64 num] w fun e w' => e = .returned (.bool true) ∧ Below w.heap.size w w' := by
  have hlen : ys.length = gs.length := by have := congrArg List.length heq; simpa using this
  have hl := h.len
  have hF := fun W (hb : Below w.heap.size w W) => find_c W base rb mb v gs s (h.below hb) hs
  have hRF := fun W (hb : Below w.heap.size w W) => refFind_c ys V c fz s W (hy.below hb) (by omega)
  have hL := fun W (hb : Below w.heap.size w W) => len_c W base rb mb v gs (h.below hb)
  have hZ := fun W (hb : Below w.heap.size w W) => frozen_c W base rb mb v gs (h.below hb)
  have hN := fun W (hb : Below w.heap.size w W) => names_c W base rb mb v gs (h.below hb)
  have hRN := fun W (hb : Below w.heap.size w W) => refNames_c ys V c fz W (hy.below hb) (by omega)
  have hM := fun W (hb : Below w.heap.size w W) => missingM_c W base rb mb v gs (h.below hb) (hkeys.below hb)
  have hRM := fun W (hb : Below w.heap.size w W) => refMissing_c ys V c fz W (hy.below hb) (by omega) hcap
  have hU := fun W (hb : Below w.heap.size w W) => users_c W base rb mb v gs s (h.below hb)
  have hRU := fun W (hb : Below w.heap.size w W) => refUsers_c ys V c fz s W (hy.below hb) (by omega) (fun q hq => prov_zero (hok q hq))
  have hpl : provsL ys = provsL gs := heq
  rw [← hlen] at hL
  simp only [namesL_of heq, hpl, usersL_of s heq] at hRF hRN hRM hRU
  have hlN : (namesL gs).length ≤ 140737488355328 := by rw [namesL_length]; omega
  have hlM : (missAns (provsL gs)).1.length ≤ 140737488355328 := Nat.le_trans (missAns_len _) (by decide)
  have hlU : (usersL s gs).length ≤ 140737488355328 := by have := usersL_len s gs; omega
  generalize (missAns (provsL gs)).1 = lM at *
  generalize usersL s gs = lU at *
  generalize (findAns (namesL gs) s).1 = fa at *
  generalize (findAns (namesL gs) s).2 = fb at *
  obtain ⟨lN, hlNe⟩ : ∃ l, l = namesL gs := ⟨_, rfl⟩
  rw [← hlNe] at hN hRN hlN
  have hGO := fun W (hb : Below w.heap.size w W) => get_out W base rb mb v gs (h.below hb) num
  have hGI := fun W (hb : Below w.heap.size w W) => get_own W base rb mb v gs (h.below hb)
  obtain ⟨w0, hw0⟩ : ∃ w0 : World, w0 = w.alloc (.cells #[.slice V ys.length c, .bool fz] 48) := ⟨_, rfl⟩
  have hb0 : Below w.heap.size w w0 := by rw [hw0]; exact (Below.refl _ _).alloc (Nat.le_refl _) _
  have hc0 : w0.cell? ⟨w.heap.size, 0, none⟩ = some (.slice V ys.length c) := by rw [hw0]; simp
  have hc1 : w0.cell? ⟨w.heap.size, 1, none⟩ = some (.bool fz) := by rw [hw0]; simp
  have hz0 : w.heap.size < w0.heap.size := by rw [hw0]; simp
  have HW := Lib.hid hw0
  have HY := Lib.hid hy
  have HF := Lib.hid hF
  have HRF := Lib.hid hRF
  have HL := Lib.hid hL
  have HZ := Lib.hid hZ
  have HN := Lib.hid hN
  have HRN := Lib.hid hRN
  have HM := Lib.hid hM
  have HRM := Lib.hid hRM
  have HU := Lib.hid hU
  have HRU := Lib.hid hRU
  have HGO := Lib.hid hGO
  have HGI := Lib.hid hGI
  have HEQ := Lib.hid heq
  have HLE := Lib.hid hlen
  clear hw0 hy hF hRF hL hZ hN hRN hM hRM hU hRU hGO hGI heq hlen hpl h hok hlNe hl hkeys
  generalize hNN : ys.length = N at *
  have HNN := Lib.hid hNN
  clear hNN
  go_enter Tryd.func30, Tryd.ntmps30
  go_wp2_with (first | (rw [← HW.out]; go_at_call 12; refine (HF.out _ hb0).mono ?_; rintro e w' ⟨rfl, rfl⟩) | (go_at_call 39; refine (HRF.out _ hb0).mono ?_; rintro e w3 ⟨rfl, hb3⟩; have hst : ST w3 w.heap.size V N c fz w3 := ⟨Below.refl _ _, (hb3.cell (p := ⟨w.heap.size, 0, none⟩) hz0).trans hc0, (hb3.cell (p := ⟨w.heap.size, 1, none⟩) hz0).trans hc1⟩; have HST := Lib.hid hst; have HB3 := Lib.hid (hb0.trans (hb3.mono hb0.size)); have HZ3 := Lib.hid (Nat.lt_of_lt_of_le hz0 hb3.size); clear hst hb3))
  go_region_held3 (fun w' => Below w3.heap.size w3 w' ∧ w'.cell? ⟨w.heap.size, 0, none⟩ = some (.slice V N c) ∧ w'.cell? ⟨w.heap.size, 1, none⟩ = some (.bool fz))
    (first | (show ST w3 w.heap.size V N c fz _; first | with_reducible exact HST.out | with_reducible exact HST.out.drew | exact HST.out.drew | with_reducible exact S13.out | with_reducible exact S12.out | with_reducible exact S11.out | with_reducible exact S10.out | with_reducible exact S9.out | with_reducible exact S8.out | with_reducible exact S7.out | with_reducible exact S6.out | with_reducible exact S5.out | fail))
    ((first
      | (go_at_call 11; have qq : ST w3 w.heap.size V N c fz _ := ‹Below _ _ _ ∧ _ ∧ _›; refine (HL.out _ (HB3.out.trans (qq.1.mono HB3.out.size))).mono ?_; rintro e w' ⟨rfl, rfl⟩; clear qq)
      | (go_at_call 41; have qq : ST w3 w.heap.size V N c fz _ := ‹Below _ _ _ ∧ _ ∧ _›; refine (HZ.out _ (HB3.out.trans (qq.1.mono HB3.out.size))).mono ?_; rintro e w' ⟨rfl, rfl⟩; clear qq)
      | (go_at_call 10; have qq : ST w3 w.heap.size V N c fz _ := ‹Below _ _ _ ∧ _ ∧ _›; refine (HN.out _ (HB3.out.trans (qq.1.mono HB3.out.size))).mono ?_; rintro e w5 ⟨v5, rfl, hown5, hb5⟩; obtain ⟨X5, d5, rfl, hs5, hq5⟩ := own_strs hown5; clear hq5 hown5; have S5 := Lib.hid (qq.below HZ3.out hb5); clear qq)
      | (go_at_call 42; have qq : ST w3 w.heap.size V N c fz _ := ‹Below _ _ _ ∧ _ ∧ _›; refine (HRN.out _ (HB3.out.trans (qq.1.mono HB3.out.size))).mono ?_; rintro e w6 ⟨X6, d6, rfl, hs6, hb6⟩; have S6 := Lib.hid (qq.below HZ3.out hb6); clear qq)
      | (go_at_call_of 18 X5; have qq : ST w3 w.heap.size V N c fz _ := ‹Below _ _ _ ∧ _ ∧ _›; refine (sameTexts_c lN X5 X6 d5 d6 _ (hs5.below hb6) hs6 hlN).mono ?_; rintro e w7 ⟨rfl, hb7⟩; have S7 := Lib.hid (qq.below HZ3.out hb7); clear qq)
      | (go_at_call 20; have qq : ST w3 w.heap.size V N c fz _ := ‹Below _ _ _ ∧ _ ∧ _›; refine (HM.out _ (HB3.out.trans (qq.1.mono HB3.out.size))).mono ?_; rintro e w8 ⟨X8, d8, rfl, hs8, hb8⟩; have S8 := Lib.hid (qq.below HZ3.out hb8); clear qq)
      | (go_at_call 43; have qq : ST w3 w.heap.size V N c fz _ := ‹Below _ _ _ ∧ _ ∧ _›; refine (HRM.out _ (HB3.out.trans (qq.1.mono HB3.out.size))).mono ?_; rintro e w9 ⟨X9, d9, rfl, hs9, hb9⟩; have S9 := Lib.hid (qq.below HZ3.out hb9); clear qq)
      | (go_at_call_of 18 X8; have qq : ST w3 w.heap.size V N c fz _ := ‹Below _ _ _ ∧ _ ∧ _›; refine (sameTexts_c lM X8 X9 d8 d9 _ (hs8.below hb9) hs9 hlM).mono ?_; rintro e w10 ⟨rfl, hb10⟩; have S10 := Lib.hid (qq.below HZ3.out hb10); clear qq)
      | (go_at_call 19; have qq : ST w3 w.heap.size V N c fz _ := ‹Below _ _ _ ∧ _ ∧ _›; refine (HU.out _ (HB3.out.trans (qq.1.mono HB3.out.size))).mono ?_; rintro e w11 ⟨X11, d11, rfl, hs11, hb11⟩; have S11 := Lib.hid (qq.below HZ3.out hb11); clear qq)
      | (go_at_call 44; have qq : ST w3 w.heap.size V N c fz _ := ‹Below _ _ _ ∧ _ ∧ _›; refine (HRU.out _ (HB3.out.trans (qq.1.mono HB3.out.size))).mono ?_; rintro e w12 ⟨X12, d12, rfl, hs12, hb12⟩; have S12 := Lib.hid (qq.below HZ3.out hb12); clear qq)
      | (go_at_call_of 18 X11; have qq : ST w3 w.heap.size V N c fz _ := ‹Below _ _ _ ∧ _ ∧ _›; refine (sameTexts_c lU X11 X12 d11 d12 _ (hs11.below hb12) hs12 hlU).mono ?_; rintro e w13 ⟨rfl, hb13⟩; have S13 := Lib.hid (qq.below HZ3.out hb13); clear qq)))
  have HB13 := Lib.hid (HB3.out.trans (S13.out.1.mono HB3.out.size))
  have hz13 : w.heap.size < w13.heap.size := Nat.lt_of_lt_of_le HZ3.out S13.out.1.size
  have hq13 := S13.out.2.1
  have HQ13 := Lib.hid hq13
  clear hs5 hb5 hs6 hb6 hb7 hs8 hb8 hs9 hb9 hb10 hs11 hb11 hs12 hb12 hb13 S5 S6 S7 S8 S9 S10 S11 S12 S13 hq13
  by_cases hout : num < 0 ∨ (N : Int) ≤ num
  · have hgo := fun W hb => HGO.out W hb (by rw [← HLE.out]; exact hout)
    have HGQ := Lib.hid hgo
    have hcs : num < 0 ∨ (¬ num < 0 ∧ (N : Int) ≤ num) := by omega
    clear hgo hout
    rcases hcs with hcs | ⟨hcs, hcs2⟩
    all_goals
      go_wp2_with (first | (go_at_call 13; refine (HGQ.out _ HB13.out).mono ?_; rintro e w14 ⟨rfl, hb14⟩; simp only [XProv.val, zProv, List.length_nil]; have q14 : ∀ o, (w14.alloc o).cell? ⟨w.heap.size, 0, none⟩ = some (.slice V N c) := (fun o => ((hb14.alloc hb14.size o).cell (p := ⟨w.heap.size, 0, none⟩) hz13).trans HQ13.out); have HB14 := Lib.hid (fun o => HB13.out.trans ((hb14.alloc hb14.size o).mono HB13.out.size)); clear hb14) | (go_at_call 14; refine (sameProv_c zProv none none 0 0 _ (.inl rfl) (.inl rfl) (by simp [zProv])).mono ?_; rintro e w15 ⟨rfl, hb15⟩))
      go_ret
      exact ⟨rfl, (HB14.out _).trans (hb15.mono (HB14.out _).size)⟩
  · obtain ⟨k, rfl⟩ : ∃ k : Nat, num = (k : Int) := ⟨num.toNat, by omega⟩
    have hjh : k < ys.length := by have := HNN.out; omega
    have hjg : k < gs.length := by have := HLE.out; have := HNN.out; omega
    have hy := HY.out
    rcases hy.lies with h | ⟨b2, off2, e2, hb2, hc2⟩
    · rw [h] at hjh; simp at hjh
    subst e2
    have y := hc2 k hjh
    have hpj := hy.each ys[k] (List.getElem_mem hjh)
    have hee : ys[k].p = gs[k].p := by
      have := congrArg (·[k]?) HEQ.out
      simp [hjh, hjg] at this
      exact this
    have hgc := fun W hb => HGI.out W hb k hjg
    rw [← hee] at hgc
    clear hee hc2 hy
    generalize ys[k] = q at *
    obtain ⟨⟨n, fs, ag, p1, p2, p3, p4, ck, ct⟩, Aq, cq⟩ := q
    have hi0 : (0 : Int) ≤ (k : Int) := Int.natCast_nonneg _
    have hi1 : (k : Int) < (N : Int) := by omega
    have hpl := hpj.len
    have YY := Lib.hid y
    have HOPQ := Lib.hid hpj.ops
    have HGC := Lib.hid hgc
    clear hgc hpj y hout
    go_wp2_with (first | (go_at_call 13; refine (HGC.out _ HB13.out).mono ?_; rintro e w14 ⟨A7, c7, rfl, hown7, hb14⟩; simp only [XProv.val] at hown7 ⊢; have q14 : ∀ o, (w14.alloc o).cell? ⟨w.heap.size, 0, none⟩ = some (.slice (some ⟨b2, off2, none⟩) N c) := (fun o => ((hb14.alloc hb14.size o).cell (p := ⟨w.heap.size, 0, none⟩) hz13).trans HQ13.out); have HOW7 := Lib.hid hown7; have HB14 := Lib.hid hb14; clear hb14 hown7))
    obtain ⟨bp, hbpe⟩ : ∃ bp : Nat, bp = w14.heap.size := ⟨_, rfl⟩
    obtain ⟨wA, hwA⟩ : ∃ wA : World, wA = w14.alloc (.cells (PRow.cells ⟨⟨n, fs, ag, p1, p2, p3, p4, ck, ct⟩, A7, c7⟩).toArray 36) := ⟨_, rfl⟩
    have hbA : Below w13.heap.size w13 wA := by rw [hwA]; exact HB14.out.alloc HB14.out.size _
    have hpA : ProvOn wA bp 0 ⟨⟨n, fs, ag, p1, p2, p3, p4, ck, ct⟩, A7, c7⟩ := by rw [hwA, hbpe]; refine ⟨?_, ?_, ?_, ?_, ?_, ?_, ?_, ?_, ?_⟩ <;> (rw [cell_new]; rfl)
    have hfA : ∀ j, wA.frozen? ⟨bp, j, none⟩ = false := by intro j; rw [hwA, hbpe]; simp
    have hbp : bp < wA.heap.size := by rw [hwA, al_size, hbpe]; omega
    have hoA : wA.ownsRow w13.heap.size 58 4 (.slice A7 fs.length c7) fs.length (opCells fs) := by rw [hwA]; exact HOW7.out.alloc _
    have hAg : ∀ o, A7 ≠ some ⟨bp, o, none⟩ := by
      intro o e
      have h1 := (HOW7.out.lt bp (by rw [e]; rfl)).2
      omega
    have hb13 : w.heap.size < wA.heap.size := Nat.lt_of_lt_of_le hz13 hbA.size
    have hb2A : b2 < wA.heap.size := Nat.lt_trans hb2 hb13
    have htb : w.heap.size < wA.heap.size := hb13
    have hBA : Below w.heap.size w wA := HB13.out.trans (hbA.mono HB13.out.size)
    refine (?_ : Code.wp _ _ _ _ (w14.alloc (.cells (PRow.cells ⟨⟨n, fs, ag, p1, p2, p3, p4, ck, ct⟩, A7, c7⟩).toArray 36)))
    rw [← hwA, ← hbpe]
    have h0 : SV wA w.heap.size (some ⟨b2, off2, none⟩) N c bp ⟨⟨n, fs, ag, p1, p2, p3, p4, ck, ct⟩, A7, c7⟩ b2 (off2 + k * 9) ⟨⟨n, fs, ag, p1, p2, p3, p4, ck, ct⟩, Aq, cq⟩ wA :=
      ⟨Below.refl _ _, (hbA.cell (p := ⟨w.heap.size, 0, none⟩) hz13).trans HQ13.out, hpA, YY.out.same fun o => hBA.cell (p := ⟨b2, o, none⟩) hb2⟩
    have H0 := Lib.hid h0
    have HO7 := Lib.hid (own_at hoA)
    have hwbp : w13.heap.size ≤ bp := by rw [hbpe]; exact HB14.out.size
    have HOQ := Lib.hid (HOPQ.out.below hBA)
    have HOA := Lib.hid hoA
    have HFA := Lib.hid hfA
    have HAG := Lib.hid hAg
    have HBA := Lib.hid hBA
    have HB13A := Lib.hid hbA
    clear h0 hoA hfA hAg hBA hbA hpA hwA hbpe HB14 HOW7 q14
    go_region_held3 (fun w' => Below wA.heap.size wA w' ∧ w'.cell? ⟨w.heap.size, 0, none⟩ = some (.slice (some ⟨b2, off2, none⟩) N c) ∧ (w'.cell? ⟨bp, 0, none⟩ = some (.string n) ∧ w'.cell? ⟨bp, 1, none⟩ = some (.slice A7 fs.length c7) ∧ w'.cell? ⟨bp, 2, none⟩ = some (.bool ag) ∧ w'.cell? ⟨bp, 3, none⟩ = some (.int .i64 p1) ∧ w'.cell? ⟨bp, 4, none⟩ = some (.int .i64 p2) ∧ w'.cell? ⟨bp, 5, none⟩ = some (.int .i64 p3) ∧ w'.cell? ⟨bp, 6, none⟩ = some (.int .i64 p4) ∧ w'.cell? ⟨bp, 7, none⟩ = some (.int .i64 ck) ∧ w'.cell? ⟨bp, 8, none⟩ = some (.string ct)) ∧ w'.cell? ⟨b2, off2 + k * 9, none⟩ = some (.string n) ∧ w'.cell? ⟨b2, off2 + k * 9 + 1, none⟩ = some (.slice Aq fs.length cq) ∧ w'.cell? ⟨b2, off2 + k * 9 + 2, none⟩ = some (.bool ag) ∧ w'.cell? ⟨b2, off2 + k * 9 + 3, none⟩ = some (.int .i64 p1) ∧ w'.cell? ⟨b2, off2 + k * 9 + 4, none⟩ = some (.int .i64 p2) ∧ w'.cell? ⟨b2, off2 + k * 9 + 5, none⟩ = some (.int .i64 p3) ∧ w'.cell? ⟨b2, off2 + k * 9 + 6, none⟩ = some (.int .i64 p4) ∧ w'.cell? ⟨b2, off2 + k * 9 + 7, none⟩ = some (.int .i64 ck) ∧ w'.cell? ⟨b2, off2 + k * 9 + 8, none⟩ = some (.string ct))
      (first | (show SV wA w.heap.size (some ⟨b2, off2, none⟩) N c bp ⟨⟨n, fs, ag, p1, p2, p3, p4, ck, ct⟩, A7, c7⟩ b2 (off2 + k * 9) ⟨⟨n, fs, ag, p1, p2, p3, p4, ck, ct⟩, Aq, cq⟩ _; first | with_reducible exact H0.out | with_reducible exact H0.out.drew | exact H0.out.drew | with_reducible exact HS.out | with_reducible exact HS.out.drew | fail))
      ((first | (go_at_call 14; have qq : SV wA w.heap.size (some ⟨b2, off2, none⟩) N c bp ⟨⟨n, fs, ag, p1, p2, p3, p4, ck, ct⟩, A7, c7⟩ b2 (off2 + k * 9) ⟨⟨n, fs, ag, p1, p2, p3, p4, ck, ct⟩, Aq, cq⟩ _ := ‹Below _ _ _ ∧ _ ∧ _›; refine (sameProv_c ⟨n, fs, ag, p1, p2, p3, p4, ck, ct⟩ A7 Aq c7 cq _ (HO7.out.below qq.1) (HOQ.out.below qq.1) hpl).mono ?_; rintro e w16 ⟨rfl, hb16⟩; have HS := Lib.hid (qq.below htb hbp hb2A hb16); clear qq)))
    have hS := HS.out
    have HS16 := Lib.hid hS
    have hb16' : Below wA.heap.size wA w16 := hS.1
    have k0 := hS.2.2.1.2.1
    rw [Nat.zero_add] at k0
    have hs16 : wA.heap.size ≤ w16.heap.size := hb16'.size
    have ho16 := own_below HOA.out hb16'
    have hsp := spoil_c w16 w13.heap.size A7 fs.length c7 (opCells fs) ho16
    have HSP := Lib.hid hsp
    have HB16 := Lib.hid hb16'
    clear hS hb16' hsp ho16 HS
    go_wp2_with (first | (go_at_call 27; refine HSP.out.mono ?_; rintro e w17 ⟨rfl, hb17, hz17, hk17⟩; have HB17 := Lib.hid (HBA.out.trans ((HB16.out.mono (HBA.out.size)).trans (hb17.mono (Nat.le_trans HB13.out.size (Nat.le_refl _))))); have HK17 := Lib.hid hk17; have HZ17 := Lib.hid hz17; clear hb17 hz17 hk17) | (go_at_call 13; refine (HGC.out _ HB17.out).mono ?_; rintro e w18 ⟨A8, c8, rfl, hown8, hb18⟩; simp only [XProv.val] at hown8 ⊢; have hblk : w18.heap[bp]? = wA.heap[bp]? := ((hb18.block bp (by rw [HZ17.out]; exact Nat.lt_of_lt_of_le hbp hs16)).trans (HK17.out bp (Nat.lt_of_lt_of_le hbp hs16) HAG.out)).trans (HB16.out.block bp hbp); have hcb : ∀ o, w18.cell? ⟨bp, o, none⟩ = wA.cell? ⟨bp, o, none⟩ := (fun o => World.cell?_of_block (a := ⟨bp, o, none⟩) hblk); have hfb : ∀ o, w18.frozen? ⟨bp, o, none⟩ = false := (fun o => (by have h1 := HFA.out o; unfold World.frozen? at h1 ⊢; rw [hblk]; exact h1)); obtain ⟨r0, r1, r2, r3, r4, r5, r6, r7, r8⟩ : ProvOn w18 bp 0 ⟨⟨n, fs, ag, p1, p2, p3, p4, ck, ct⟩, A7, c7⟩ := (H0.out.2.2.1).same hcb; simp only [Nat.zero_add] at r0 r1 r2 r3 r4 r5 r6 r7 r8; have x0 := hfb 0; have x1 := hfb 1; have x2 := hfb 2; have x3 := hfb 3; have x4 := hfb 4; have x5 := hfb 5; have x6 := hfb 6; have x7 := hfb 7; have x8 := hfb 8; clear hfb hcb hblk; have HOW8 := Lib.hid hown8; have HB18 := Lib.hid hb18; clear hown8 hb18))
    obtain ⟨wS, hwS⟩ : ∃ wS : World, wS = w18.setCells bp 0 [.string n, .slice A8 fs.length c8, .bool ag, .int .i64 p1, .int .i64 p2, .int .i64 p3, .int .i64 p4, .int .i64 ck, .string ct] := ⟨_, rfl⟩
    refine (?_ : Code.wp _ _ _ _ (w18.setCells bp 0 [.string n, .slice A8 fs.length c8, .bool ag, .int .i64 p1, .int .i64 p2, .int .i64 p3, .int .i64 p4, .int .i64 ck, .string ct]))
    rw [← hwS]
    have hin : ∀ j (hj : j < 9), wS.cell? ⟨bp, j, none⟩ = some ([.string n, .slice A8 fs.length c8, .bool ag, .int .i64 p1, .int .i64 p2, .int .i64 p3, .int .i64 p4, .int .i64 ck, .string ct][j]'hj) := by
      intro j hj
      rw [hwS]
      exact cell_setCells0 (fun j hj => nine_some r0 r1 r2 r3 r4 r5 r6 r7 r8 j (by simpa using hj)) j (by simpa using hj)
    have hpS : ProvOn wS bp 0 ⟨⟨n, fs, ag, p1, p2, p3, p4, ck, ct⟩, A8, c8⟩ := by
      unfold ProvOn
      simp only [Nat.zero_add]
      exact ⟨hin 0 (by simp), hin 1 (by simp), hin 2 (by simp), hin 3 (by simp), hin 4 (by simp), hin 5 (by simp), hin 6 (by simp), hin 7 (by simp), hin 8 (by simp)⟩
    have h1817 : w17.heap.size ≤ w18.heap.size := HB18.out.size
    have h17 : w17.heap.size = w16.heap.size := HZ17.out
    have hBS : Below w.heap.size w wS := by rw [hwS]; exact below_setCells (HB17.out.trans (HB18.out.mono HB17.out.size)) bp (by omega) _ 0
    have hoS : OpsAt wS A8 fs := by rw [hwS]; exact own_at (own_setCells bp (by omega) _ 0 HOW8.out)
    have hzS : wS.heap.size = w18.heap.size := by rw [hwS, size_setCells]
    have hbpS : bp < wS.heap.size := by omega
    have hb2S : b2 < wS.heap.size := by omega
    have htbS : w.heap.size < wS.heap.size := by omega
    have htS : wS.cell? ⟨w.heap.size, 0, none⟩ = some (.slice (some ⟨b2, off2, none⟩) N c) := by
      have h1 : wS.cell? ⟨w.heap.size, 0, none⟩ = w18.cell? ⟨w.heap.size, 0, none⟩ := by rw [hwS]; exact World.cell?_setCells_out bp _ 0 _ _ (fun e => by simp at e; omega)
      have hlt : w.heap.size < w17.heap.size := by omega
      rw [h1, HB18.out.cell (p := ⟨w.heap.size, 0, none⟩) hlt]
      have h2 := HK17.out w.heap.size (by omega) (fun o e => by have := (HOA.out.lt w.heap.size (by rw [e]; rfl)).1; omega)
      rw [World.cell?_of_block (a := ⟨w.heap.size, 0, none⟩) h2]
      exact HS16.out.2.1
    have h0 : SV wS w.heap.size (some ⟨b2, off2, none⟩) N c bp ⟨⟨n, fs, ag, p1, p2, p3, p4, ck, ct⟩, A8, c8⟩ b2 (off2 + k * 9) ⟨⟨n, fs, ag, p1, p2, p3, p4, ck, ct⟩, Aq, cq⟩ wS :=
      ⟨Below.refl _ _, htS, hpS, YY.out.same fun o => hBS.cell (p := ⟨b2, o, none⟩) hb2⟩
    clear H0
    have H0 := Lib.hid h0
    have HO8 := Lib.hid hoS
    clear HOQ
    have HOQ := Lib.hid (HOPQ.out.below hBS)
    have HBS := Lib.hid hBS
    clear h0 hoS hBS hpS htS hwS hin r0 r1 r2 r3 r4 r5 r6 r7 r8 x0 x1 x2 x3 x4 x5 x6 x7 x8 h1817 h17 hzS
    go_region_held3 (fun w' => Below wS.heap.size wS w' ∧ w'.cell? ⟨w.heap.size, 0, none⟩ = some (.slice (some ⟨b2, off2, none⟩) N c) ∧ (w'.cell? ⟨bp, 0, none⟩ = some (.string n) ∧ w'.cell? ⟨bp, 1, none⟩ = some (.slice A8 fs.length c8) ∧ w'.cell? ⟨bp, 2, none⟩ = some (.bool ag) ∧ w'.cell? ⟨bp, 3, none⟩ = some (.int .i64 p1) ∧ w'.cell? ⟨bp, 4, none⟩ = some (.int .i64 p2) ∧ w'.cell? ⟨bp, 5, none⟩ = some (.int .i64 p3) ∧ w'.cell? ⟨bp, 6, none⟩ = some (.int .i64 p4) ∧ w'.cell? ⟨bp, 7, none⟩ = some (.int .i64 ck) ∧ w'.cell? ⟨bp, 8, none⟩ = some (.string ct)) ∧ w'.cell? ⟨b2, off2 + k * 9, none⟩ = some (.string n) ∧ w'.cell? ⟨b2, off2 + k * 9 + 1, none⟩ = some (.slice Aq fs.length cq) ∧ w'.cell? ⟨b2, off2 + k * 9 + 2, none⟩ = some (.bool ag) ∧ w'.cell? ⟨b2, off2 + k * 9 + 3, none⟩ = some (.int .i64 p1) ∧ w'.cell? ⟨b2, off2 + k * 9 + 4, none⟩ = some (.int .i64 p2) ∧ w'.cell? ⟨b2, off2 + k * 9 + 5, none⟩ = some (.int .i64 p3) ∧ w'.cell? ⟨b2, off2 + k * 9 + 6, none⟩ = some (.int .i64 p4) ∧ w'.cell? ⟨b2, off2 + k * 9 + 7, none⟩ = some (.int .i64 ck) ∧ w'.cell? ⟨b2, off2 + k * 9 + 8, none⟩ = some (.string ct))
      (first | (show SV wS w.heap.size (some ⟨b2, off2, none⟩) N c bp ⟨⟨n, fs, ag, p1, p2, p3, p4, ck, ct⟩, A8, c8⟩ b2 (off2 + k * 9) ⟨⟨n, fs, ag, p1, p2, p3, p4, ck, ct⟩, Aq, cq⟩ _; first | with_reducible exact H0.out | with_reducible exact H0.out.drew | exact H0.out.drew | with_reducible exact HS.out | with_reducible exact HS.out.drew | fail))
      ((first | (go_at_call 14; have qq : SV wS w.heap.size (some ⟨b2, off2, none⟩) N c bp ⟨⟨n, fs, ag, p1, p2, p3, p4, ck, ct⟩, A8, c8⟩ b2 (off2 + k * 9) ⟨⟨n, fs, ag, p1, p2, p3, p4, ck, ct⟩, Aq, cq⟩ _ := ‹Below _ _ _ ∧ _ ∧ _›; refine (sameProv_c ⟨n, fs, ag, p1, p2, p3, p4, ck, ct⟩ A8 Aq c8 cq _ (HO8.out.below qq.1) (HOQ.out.below qq.1) hpl).mono ?_; rintro e w20 ⟨rfl, hb20⟩; have HS := Lib.hid (qq.below htbS hbpS hb2S hb20); clear qq)))
    have hfin := HS.out.1
    go_wp2
    go_ret
    exact ⟨rfl, HBS.out.trans (hfin.mono HBS.out.size)⟩
end Go.Proofs.YtofmdmmgbfbaoaaDoor
