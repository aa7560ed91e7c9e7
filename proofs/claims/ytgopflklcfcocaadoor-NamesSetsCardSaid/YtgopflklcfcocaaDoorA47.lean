/- The law NamesSets. -/
import Derived.Test.YtgopflklcfcocaaDoorA46
namespace Go.Proofs.YtgopflklcfcocaaDoor
open Go.RowKit

theorem like_len {rs rs1 : List PRow} (h : rs1.map (·.p) = rs.map (·.p)) : rs1.length = rs.length := by have := congrArg List.length h; simpa using this
theorem checkSet_like (rs rs1 : List PRow) (V : Option Addr) (c : Nat) (w : World) (h : rs1.map (·.p) = rs.map (·.p)) (hx : ProvsAt w V rs1) (hl : rs.length * 104 ≤ 140737488355328) (hkeys : KeysIn w) :
    Calls Tryd.prog 34 #[.slice V rs.length c] w (FaultPost (setF (provsL rs)) w) := by
  have hle := like_len h
  have := checkSet_c rs1 V c w hx (by rw [hle]; exact hl) hkeys
  rw [hle, show provsL rs1 = provsL rs from h] at this
  exact this
theorem missN_like (rs rs1 : List PRow) (V : Option Addr) (c : Nat) (w : World) (h : rs1.map (·.p) = rs.map (·.p)) (hx : ProvsAt w V rs1) (hl : rs.length * 104 ≤ 140737488355328) (hkeys : KeysIn w) :
    Calls Tryd.prog 36 #[.slice V rs.length c] w (TextsFault (missAns (provsL rs)) w) := by
  have hle := like_len h
  have := missN_c rs1 V c w hx (by rw [hle]; exact hl) hkeys
  rw [hle, show provsL rs1 = provsL rs from h] at this
  exact this
theorem providers_like (rs rs1 : List PRow) (V V2 : Option Addr) (c c2 : Nat) (w : World) (h : rs1.map (·.p) = rs.map (·.p)) (hx : ProvsAt w V rs1) (hy : ProvsAt w V2 rs) (hl : rs.length ≤ 140737488355328) :
    Calls Tryd.prog 38 #[.slice V rs.length c, .slice V2 rs.length c2] w fun e w' => e = .returned (.bool true) ∧ Below w.heap.size w w' := by
  have hle := like_len h
  have := providers_c rs1 rs V V2 c c2 w hx hy h hl
  rw [hle] at this
  exact this
theorem eq_fault (d : Nat) (w : World) (x0 y0 x1 y1 : Int) :
    (Op.equalIn (d + 2) 58 (.agg #[.int .i64 x0, .int .i64 x1]) (.agg #[.int .i64 y0, .int .i64 y1])).run Tryd.prog w = .ok (x0 == y0 && (x1 == y1 && true)) w := by
  refine eqs_of Tryd.underlying58 (by kernel_rfl) ?_
  refine eqs_cons (by rfl) (by go_simp; rfl) (by go_simp; rfl) (by go_simp) ?_
  exact eqs_cons (by rfl) (by go_simp; rfl) (by go_simp; rfl) (by go_simp) eqs_nil
theorem eq_fault_run (w : World) (x0 x1 : Int) :
    (binOp .eql 58 (.agg #[.int .i64 x0, .int .i64 x1]) (.agg #[.int .i64 x0, .int .i64 x1])).run Tryd.prog w = .ok (.bool true) w := by
  simp only [binOp]
  simp [Op.equal, Op.maxDepth, eq_fault 9998]
theorem ne_fault_run (w : World) (x0 x1 : Int) :
    (binOp .neq 58 (.agg #[.int .i64 x0, .int .i64 x1]) (.agg #[.int .i64 x0, .int .i64 x1])).run Tryd.prog w = .ok (.bool false) w := by
  simp only [binOp]
  simp [Op.equal, Op.maxDepth, eq_fault 9998]
theorem TextsFault.row {a : List ByteArray × (Int × Int)} {w w' : World} {e : Ending} {l : List ByteArray} {i c : Int} (h : TextsFault a w e w') (ha : a = (l, (i, c))) : ∃ X d, e = .returned (.tuple #[.slice X l.length d, .agg #[.int .i64 i, .int .i64 c]]) ∧ StrsAt w' X l ∧ Below w.heap.size w w' := by
  subst ha
  obtain ⟨v, rfl, hown, hb⟩ := h
  obtain ⟨X, d, rfl, hn, _⟩ := own_strs hown
  exact ⟨X, d, rfl, hn, hb⟩
theorem missStep_len (N : List ByteArray) : ∀ (l out : List ByteArray), (missStep N l out).length ≤ out.length + l.length
  | [], out => by simp [missStep]
  | s :: l, out => by
    rw [missStep]
    refine Nat.le_trans (missStep_len N l _) ?_
    split
    · rw [List.length_append, List.length_singleton, List.length_cons]; omega
    · rw [List.length_cons]; omega
theorem missFrom_len (N : List ByteArray) : ∀ (ps : List XProv) (out : List ByteArray), (∀ p ∈ ps, p.expr.length ≤ 256) → (missFrom N ps out).length ≤ out.length + 256 * ps.length
  | [], out, _ => by simp [missFrom]
  | p :: ps, out, h => by
    rw [missFrom]
    refine Nat.le_trans (missFrom_len N ps _ (fun q hq => h q (by simp [hq]))) ?_
    have h1 := missStep_len N (textsF p.expr 3) out
    have h2 := texts_length (kind := 3) p.expr []
    have h3 := h p (by simp)
    simp at h2
    unfold textsF at h1 ⊢
    rw [List.length_cons]
    omega
theorem miss_len (ps : List XProv) : (missAns ps).1.length ≤ 65536 := by
  unfold missAns
  split
  · simp
  · next h =>
    have h0 : (setF ps).2 = 0 := by simpa using h
    obtain ⟨h1, h2, _⟩ := set_zero h0
    have := missFrom_len (ps.map XProv.name) ps [] (fun p hp => prov_len (h2 p hp))
    simp only [missL]
    simp at this
    omega

set_option maxHeartbeats 4000000 in
set_option maxRecDepth 100000 in
theorem namesSets_c (rs : List PRow) (V : Option Addr) (c : Nat) (w : World) (hx : ProvsAt w V rs) (hl : rs.length * 104 ≤ 140737488355328) (hcap : rs.length ≤ c) (hkeys : KeysIn w) :
    Calls Tryd.prog 7 #[.slice V rs.length c] w fun e w' => e = .returned (.bool true) ∧ Below w.heap.size w w' := by
  have hml := miss_len (provsL rs)
  have hMN := fun (W : World) (B : Option Addr) (d : Nat) rs1 h (h1 : ProvsAt W B rs1) h2 => (missN_like rs rs1 B d W h h1 hl h2)
  have hMR := fun (W : World) h1 => (missR_c rs V c W h1 hl hcap)
  have hSN := fun (W : World) (B : Option Addr) (d : Nat) rs1 h (h1 : ProvsAt W B rs1) h2 => (checkSet_like rs rs1 B d W h h1 hl h2)
  have hSR := fun (W : World) h1 => (checkSetR_c rs V c W h1 hl hcap)
  have hCP := fun (W : World) h1 => (copyProvs_c rs V c W h1 hl)
  generalize hms : missAns (provsL rs) = ms at *
  generalize hst : setF (provsL rs) = st at *
  obtain ⟨ml, ma, mc⟩ := ms
  obtain ⟨sa, sc⟩ := st
  simp only at hml
  have hqe := eq_fault_run
  have hqn := ne_fault_run
  have HMN := Lib.hid hMN
  have HMR := Lib.hid hMR
  have HSN := Lib.hid hSN
  have HSR := Lib.hid hSR
  have HCP := Lib.hid hCP
  clear hMN hMR hSN hSR hCP hms hst
  go_enter Tryd.func7, Tryd.ntmps7
  go_wp2_with (first | (go_at_call 33; refine (HCP.out _ hx).mono ?_; rintro e w1 ⟨V1, c1, rs1, rfl, hx1, hm1, hb1⟩; have HM1 := Lib.hid hm1; clear hm1; have hk1 := hkeys.below hb1) | (go_at_call 34; refine (HSN.out _ V1 c1 rs1 HM1.out hx1 hk1).mono ?_; rintro e w2 ⟨rfl, hb2⟩; have hbw2 := hb1.trans (hb2.mono hb1.size)) | (go_at_call 35; refine (HSR.out _ (hx.below hbw2)).mono ?_; rintro e w3 ⟨rfl, hb3⟩; have hbw3 := hbw2.trans (hb3.mono hbw2.size); have hx3 := (hx1.below hb2).below hb3) | (go_at_call 36; refine (HMN.out _ V1 c1 rs1 HM1.out hx3 (hkeys.below hbw3)).mono ?_; rintro e w4 hp4; obtain ⟨X4, d4, rfl, hs4, hb4⟩ := hp4.row rfl; clear hp4; have hbw4 := hbw3.trans (hb4.mono hbw3.size); have hal4 : ∀ o : Obj, Below w4.heap.size w4 (w4.alloc o) := (fun o => (Below.refl _ _).alloc (Nat.le_refl _) o); have HAL4 := Lib.hid hal4; clear hal4) | (go_at_call 37; refine (HMR.out _ (hx.below (hbw4.trans ((HAL4.out _).mono hbw4.size)))).mono ?_; rintro e w5 hp5; obtain ⟨X5, d5, rfl, hs5, hb5'⟩ := hp5.row rfl; clear hp5; have hb5 : Below w4.heap.size w4 w5 := (HAL4.out _).trans (hb5'.mono (HAL4.out _).size); have r0 : w5.cell? ⟨w4.heap.size, 0, none⟩ = some (.int .i64 ma) := (hb5'.cell (p := ⟨w4.heap.size, 0, none⟩) (by simp)).trans (by simp); have r1 : w5.cell? ⟨w4.heap.size, 1, none⟩ = some (.int .i64 mc) := (hb5'.cell (p := ⟨w4.heap.size, 1, none⟩) (by simp)).trans (by simp); have hlt45 : w4.heap.size < w5.heap.size := Nat.lt_of_lt_of_le (by simp) hb5'.size; clear hb5'; have hbw5 := hbw4.trans (hb5.mono hbw4.size); have hal5 : ∀ o : Obj, Below w5.heap.size w5 (w5.alloc o) := (fun o => (Below.refl _ _).alloc (Nat.le_refl _) o); have HAL5 := Lib.hid hal5; clear hal5) | (go_at_call 26; refine (sameTexts_c ml X4 X5 d4 d5 _ ((hs4.below hb5).below (HAL5.out _)) (hs5.below (HAL5.out _)) (by omega)).mono ?_; rintro e w6 ⟨rfl, hb6'⟩; have hb6 : Below w5.heap.size w5 w6 := (HAL5.out _).trans (hb6'.mono (HAL5.out _).size); clear hb6'; have hbw6 := hbw5.trans (hb6.mono hbw5.size); have hx6 := ((hx3.below hb4).below hb5).below hb6) | (go_at_call 38; refine (providers_like rs rs1 V1 V c1 c _ HM1.out hx6 (hx.below hbw6) (by omega)).mono ?_; rintro e w7 ⟨rfl, hb7⟩; have hbw7 := hbw6.trans (hb7.mono hbw6.size)))
  go_ret
  exact ⟨rfl, hbw7⟩
end Go.Proofs.YtgopflklcfcocaaDoor
