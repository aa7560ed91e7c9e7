/- A name's place; the comparison of rows of providers; what is wrong with a set: plain, and the reference's. -/
import Derived.Test.YtgopflklcfcocaaDoorA40
import Derived.Test.YtgopflklcfcocaaDoorA19
namespace Go.Proofs.YtgopflklcfcocaaDoor
open Go.RowKit

def namesL (rs : List PRow) : List ByteArray := rs.map fun r => r.p.name
theorem namesL_length (rs : List PRow) : (namesL rs).length = rs.length := by simp [namesL]
theorem namesL_get (rs : List PRow) (k : Nat) (h : k < rs.length) : (namesL rs)[k]'(by rw [namesL_length]; exact h) = rs[k].p.name := by simp [namesL]
theorem idx_step (xs : List ByteArray) (s : ByteArray) (k : Nat) (h : k < xs.length) : idxFrom xs s k = if s = xs[k] then (k : Int) else idxFrom xs s (k + 1) := by
  rw [idxFrom, dif_pos h]
theorem idx_end (xs : List ByteArray) (s : ByteArray) (k : Nat) (h : xs.length ≤ k) : idxFrom xs s k = -1 := by
  rw [idxFrom, dif_neg (by omega)]
theorem idx_mem (xs : List ByteArray) (s : ByteArray) : decide (0 ≤ idxFrom xs s 0) = memB s xs := by
  rw [Bool.eq_iff_iff, decide_eq_true_eq, idxFrom_nonneg, memB_iff, List.drop_zero]
set_option maxHeartbeats 2000000 in
theorem number_c (rs : List PRow) (s : ByteArray) (V : Option Addr) (c : Nat) (w : World) (hx : ProvsAt w V rs) (hl : rs.length ≤ 140737488355328) :
    Calls Tryd.prog 66 #[.slice V rs.length c, .string s] w fun e w' => e = .returned (.int .i64 (idxFrom (namesL rs) s 0)) ∧ w = w' := by
  go_enter Tryd.func66, Tryd.ntmps66
  go_wp2
  go_loop [5] (fun v => ∃ k : Nat, k ≤ rs.length ∧ v = .int .i64 k ∧ Hid (idxFrom (namesL rs) s k = idxFrom (namesL rs) s 0)) (fun v => rs.length - (intOf v).toNat)
  case atStart => exact ⟨0, by omega, rfl, rfl⟩
  case round =>
    obtain ⟨k, hk, rfl, hr⟩ := hrel
    by_cases hlt : k < rs.length
    · rcases hx.lies with h | ⟨b, off, rfl, _, hc⟩
      · rw [h] at hlt; simp at hlt
      obtain ⟨g0, _⟩ := hc k hlt
      clear hc
      have hst := idx_step (namesL rs) s k (by rw [namesL_length]; exact hlt)
      rw [namesL_get rs k hlt] at hst
      have HST := Lib.hid hst
      clear hst
      by_cases he : rs[k].p.name = s
      · have h2 : (rs[k].p.name.toList == s.toList) = true := by rw [bytes_beq]; simpa using he
        have HE := Lib.hid he
        clear he
        go_wp2
        go_ret
        refine ⟨ret_int ?_, rfl⟩
        rw [← hr.out, HST.out, if_pos HE.out.symm]
      · have h2 : (rs[k].p.name.toList == s.toList) = false := by rw [bytes_beq]; simpa using he
        have HE := Lib.hid he
        clear he
        go_wp2
        go_round
        case rel => exact ⟨k + 1, by omega, by go_num, by rw [← hr.out, HST.out, if_neg (fun e => HE.out e.symm)]; rfl⟩
        case measure => simp [intOf]; omega
    · go_wp2
      go_ret
      refine ⟨ret_int ?_, rfl⟩
      rw [← hr.out, idx_end _ _ _ (by rw [namesL_length]; omega)]
/-- What the comparison's region keeps. -/
def SQ (w : World) (b o : Nat) (r : PRow) (b2 o2 : Nat) (r2 : PRow) (w' : World) : Prop := Below w.heap.size w w' ∧ ProvOn w' b o r ∧ ProvOn w' b2 o2 r2
theorem SQ.below {w W W' : World} {b o b2 o2 : Nat} {r r2 : PRow} (h : SQ w b o r b2 o2 r2 W) (h1 : b < w.heap.size) (h2 : b2 < w.heap.size) (hb : Below W.heap.size W W') : SQ w b o r b2 o2 r2 W' :=
  ⟨h.1.trans (hb.mono h.1.size), h.2.1.same fun o => hb.cell (p := ⟨b, o, none⟩) (Nat.lt_of_lt_of_le h1 h.1.size), h.2.2.same fun o => hb.cell (p := ⟨b2, o, none⟩) (Nat.lt_of_lt_of_le h2 h.1.size)⟩
theorem SQ.drew {w W : World} {b o b2 o2 : Nat} {r r2 : PRow} (h : SQ w b o r b2 o2 r2 W) : SQ w b o r b2 o2 r2 W.drew := ⟨h.1.trans ((Below.refl _ _).drew.mono h.1.size), h.2.1, h.2.2⟩
set_option maxHeartbeats 4000000 in
set_option maxRecDepth 100000 in
theorem providers_c (rs rs2 : List PRow) (V V2 : Option Addr) (c c2 : Nat) (w : World) (hx : ProvsAt w V rs) (hy : ProvsAt w V2 rs2) (hm : rs.map (·.p) = rs2.map (·.p)) (hl : rs2.length ≤ 140737488355328) :
    Calls Tryd.prog 38 #[.slice V rs.length c, .slice V2 rs2.length c2] w fun e w' => e = .returned (.bool true) ∧ Below w.heap.size w w' := by
  have hle : rs.length = rs2.length := by have := congrArg List.length hm; simpa using this
  have hpe : ∀ k (h1 : k < rs.length) (h2 : k < rs2.length), rs[k].p = rs2[k].p := fun k h1 h2 => by
    have := congrArg (·[k]?) hm
    simp [h1, h2] at this
    exact this
  rw [hle]
  have HPE := Lib.hid hpe
  have HLE := Lib.hid hle
  clear hm hpe hle
  go_enter Tryd.func38, Tryd.ntmps38
  go_wp2
  go_loopw [5] (fun i wr => ∃ k : Nat, k ≤ rs2.length ∧ i = .int .i64 k ∧ Below w.heap.size w wr) (fun i _ => rs2.length - (intOf i).toNat)
  case atStart => exact ⟨0, by omega, rfl, Below.refl _ _⟩
  case round =>
    obtain ⟨k, hk, rfl, hbel⟩ := hrel
    by_cases hlt : k < rs2.length
    · have hlt1 : k < rs.length := by rw [HLE.out]; exact hlt
      rcases (hx.below hbel).lies with h | ⟨b, off, rfl, hb, hc⟩
      · rw [h] at hlt1; simp at hlt1
      rcases (hy.below hbel).lies with h | ⟨b2, off2, rfl, hb2, hc2⟩
      · rw [h] at hlt; simp at hlt
      have q1 := hc k hlt1
      have q2 := hc2 k hlt
      have p1 := (hx.below hbel).each rs[k] (List.getElem_mem hlt1)
      have p2 := (hy.below hbel).each rs2[k] (List.getElem_mem hlt)
      have hee := HPE.out k hlt1 hlt
      generalize rs[k] = r at *
      generalize rs2[k] = r2 at *
      obtain ⟨p, A, ca⟩ := r
      obtain ⟨p', B, cb⟩ := r2
      simp only at hee p1 p2
      subst hee
      obtain ⟨n, fs, ag, p1', p2', p3', p4', ck, ct⟩ := p
      have h0 : SQ wr b (off + k * 9) ⟨⟨n, fs, ag, p1', p2', p3', p4', ck, ct⟩, A, ca⟩ b2 (off2 + k * 9) ⟨⟨n, fs, ag, p1', p2', p3', p4', ck, ct⟩, B, cb⟩ wr := ⟨Below.refl _ _, q1, q2⟩
      have H0 := Lib.hid h0
      have hi0 : (0 : Int) ≤ (k : Int) := Int.natCast_nonneg _
      have hi1 : (k : Int) < (rs2.length : Int) := by omega
      have hpl := p1.len
      have hpo1 := p1.ops
      have hpo2 := p2.ops
      have hbs := hbel.size
      clear hc hc2 q1 q2 p1 p2 h0
      go_wp2_with fail
      go_region_held3 (fun w' => Below wr.heap.size wr w' ∧ (w'.cell? ⟨b, off + k * 9, none⟩ = some (.string n) ∧ w'.cell? ⟨b, off + k * 9 + 1, none⟩ = some (.slice A fs.length ca) ∧ w'.cell? ⟨b, off + k * 9 + 2, none⟩ = some (.bool ag) ∧ w'.cell? ⟨b, off + k * 9 + 3, none⟩ = some (.int .i64 p1') ∧ w'.cell? ⟨b, off + k * 9 + 4, none⟩ = some (.int .i64 p2') ∧ w'.cell? ⟨b, off + k * 9 + 5, none⟩ = some (.int .i64 p3') ∧ w'.cell? ⟨b, off + k * 9 + 6, none⟩ = some (.int .i64 p4') ∧ w'.cell? ⟨b, off + k * 9 + 7, none⟩ = some (.int .i64 ck) ∧ w'.cell? ⟨b, off + k * 9 + 8, none⟩ = some (.string ct)) ∧ w'.cell? ⟨b2, off2 + k * 9, none⟩ = some (.string n) ∧ w'.cell? ⟨b2, off2 + k * 9 + 1, none⟩ = some (.slice B fs.length cb) ∧ w'.cell? ⟨b2, off2 + k * 9 + 2, none⟩ = some (.bool ag) ∧ w'.cell? ⟨b2, off2 + k * 9 + 3, none⟩ = some (.int .i64 p1') ∧ w'.cell? ⟨b2, off2 + k * 9 + 4, none⟩ = some (.int .i64 p2') ∧ w'.cell? ⟨b2, off2 + k * 9 + 5, none⟩ = some (.int .i64 p3') ∧ w'.cell? ⟨b2, off2 + k * 9 + 6, none⟩ = some (.int .i64 p4') ∧ w'.cell? ⟨b2, off2 + k * 9 + 7, none⟩ = some (.int .i64 ck) ∧ w'.cell? ⟨b2, off2 + k * 9 + 8, none⟩ = some (.string ct))
        (first | (show SQ wr b (off + k * 9) ⟨⟨n, fs, ag, p1', p2', p3', p4', ck, ct⟩, A, ca⟩ b2 (off2 + k * 9) ⟨⟨n, fs, ag, p1', p2', p3', p4', ck, ct⟩, B, cb⟩ _; first | with_reducible exact H0.out | with_reducible exact H0.out.drew | with_reducible exact HS.out | with_reducible exact HS.out.drew))
        ((first | (go_at_call 18; have qq : SQ wr b (off + k * 9) ⟨⟨n, fs, ag, p1', p2', p3', p4', ck, ct⟩, A, ca⟩ b2 (off2 + k * 9) ⟨⟨n, fs, ag, p1', p2', p3', p4', ck, ct⟩, B, cb⟩ _ := ‹Below _ _ _ ∧ _ ∧ _›; refine (sameProv_c ⟨n, fs, ag, p1', p2', p3', p4', ck, ct⟩ A B ca cb _ (hpo1.below qq.1) (hpo2.below qq.1) hpl).mono ?_; rintro e w1 ⟨rfl, hb1⟩; have HS := Lib.hid (qq.below hb hb2 hb1); clear qq)))
      have hfin := HS.out.1
      go_wp2
      go_roundw
      case rel => exact ⟨k + 1, by omega, by go_num, hbel.trans (hfin.mono hbs)⟩
      case measure => simp [intOf]; omega
    · go_wp2
      go_ret
      exact ⟨rfl, hbel⟩

/-- The first provider that is wrong. -/
def badAt : List XProv → Nat → Option (Nat × Int)
  | [], _ => none
  | p :: ps, i => if provF p ≠ 0 then some (i, provF p) else badAt ps (i + 1)
/-- The first name that was there before. -/
def twiceAt : List ByteArray → List ByteArray → Nat → Option Nat
  | [], _, _ => none
  | s :: r, d, i => if memB s d = true then some i else twiceAt r (d ++ [s]) (i + 1)
/-- CheckSet's answer: the place and the word. -/
def setF (ps : List XProv) : Int × Int :=
  if 256 < ps.length then (0, 3)
  else match badAt ps 0 with
    | some (i, c) => ((i : Int), c)
    | none => match twiceAt (ps.map XProv.name) [] 0 with
      | some i => ((i : Int), 6)
      | none => (0, 0)
theorem badAt_drop (ps : List XProv) (k : Nat) (h : k < ps.length) : badAt (ps.drop k) k = if provF ps[k] ≠ 0 then some (k, provF ps[k]) else badAt (ps.drop (k + 1)) (k + 1) := by
  rw [List.drop_eq_getElem_cons h, badAt]
theorem twiceAt_drop (l : List ByteArray) (k : Nat) (h : k < l.length) : twiceAt (l.drop k) (l.take k) k = if memB l[k] (l.take k) = true then some k else twiceAt (l.drop (k + 1)) (l.take (k + 1)) (k + 1) := by
  rw [List.drop_eq_getElem_cons h, twiceAt, List.take_succ_eq_append_getElem h]
/-- The set of a row. -/
def provsL (rs : List PRow) : List XProv := rs.map (·.p)
theorem provsL_length (rs : List PRow) : (provsL rs).length = rs.length := by simp [provsL]
theorem provsL_get (rs : List PRow) (k : Nat) (h : k < rs.length) : (provsL rs)[k]'(by rw [provsL_length]; exact h) = rs[k].p := by simp [provsL]
theorem provsL_names (rs : List PRow) : (provsL rs).map XProv.name = namesL rs := by unfold provsL namesL; rw [List.map_map]; rfl
/-- What a call that answers with a fault leaves. -/
def FaultPost (a : Int × Int) (w : World) (e : Ending) (w' : World) : Prop := e = .returned (.agg #[.int .i64 a.1, .int .i64 a.2]) ∧ Below w.heap.size w w'
end Go.Proofs.YtgopflklcfcocaaDoor
