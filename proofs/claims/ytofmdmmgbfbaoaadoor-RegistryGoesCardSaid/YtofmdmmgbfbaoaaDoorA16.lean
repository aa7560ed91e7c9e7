/- Policies, closers, providers: what is wrong with one. -/
import Derived.Test.YtofmdmmgbfbaoaaDoorA15
namespace Go.Proofs.YtofmdmmgbfbaoaaDoor
open Go.RowKit

def zeroP (t b f c : Int) : Bool := t == 0 && (b == 0 && (f == 0 && c == 0))
def policyF (t b f c : Int) : Bool := zeroP t b f c || (decide (1 ≤ t) && decide (t ≤ 64) && decide (0 ≤ b) && decide (b ≤ 1073741824) && decide (1 ≤ f) && decide (f ≤ 16) && decide (b ≤ c) && decide (c ≤ 1099511627776))
theorem eq_pol (d : Nat) (w : World) (x0 y0 x1 y1 x2 y2 x3 y3 : Int) :
    (Op.equalIn (d + 2) 32 (.agg #[.int .i64 x0, .int .i64 x1, .int .i64 x2, .int .i64 x3]) (.agg #[.int .i64 y0, .int .i64 y1, .int .i64 y2, .int .i64 y3])).run Tryd.prog w = .ok (x0 == y0 && (x1 == y1 && (x2 == y2 && (x3 == y3 && true)))) w := by
  refine eqs_of Tryd.underlying32 (by kernel_rfl) ?_
  refine eqs_cons (by rfl) (by go_simp; rfl) (by go_simp; rfl) (by go_simp) ?_
  refine eqs_cons (by rfl) (by go_simp; rfl) (by go_simp; rfl) (by go_simp) ?_
  refine eqs_cons (by rfl) (by go_simp; rfl) (by go_simp; rfl) (by go_simp) ?_
  exact eqs_cons (by rfl) (by go_simp; rfl) (by go_simp; rfl) (by go_simp) eqs_nil
theorem eq_pol_run (w : World) (x0 y0 x1 y1 x2 y2 x3 y3 : Int) :
    (binOp .eql 32 (.agg #[.int .i64 x0, .int .i64 x1, .int .i64 x2, .int .i64 x3]) (.agg #[.int .i64 y0, .int .i64 y1, .int .i64 y2, .int .i64 y3])).run Tryd.prog w = .ok (.bool (x0 == y0 && (x1 == y1 && (x2 == y2 && x3 == y3)))) w := by
  simp only [binOp]
  simp [Op.equal, Op.maxDepth, eq_pol 9998]
theorem eq_clo (d : Nat) (w : World) (x0 y0 : Int) (x1 y1 : ByteArray) :
    (Op.equalIn (d + 2) 34 (.agg #[.int .i64 x0, .string x1]) (.agg #[.int .i64 y0, .string y1])).run Tryd.prog w = .ok (x0 == y0 && (x1.toList == y1.toList && true)) w := by
  refine eqs_of Tryd.underlying34 (by kernel_rfl) ?_
  refine eqs_cons (by rfl) (by go_simp; rfl) (by go_simp; rfl) (by go_simp) ?_
  exact eqs_cons (by rfl) (by go_simp; rfl) (by go_simp; rfl) (by go_simp) eqs_nil
theorem eq_clo_run (w : World) (x0 y0 : Int) (x1 y1 : ByteArray) :
    (binOp .eql 34 (.agg #[.int .i64 x0, .string x1]) (.agg #[.int .i64 y0, .string y1])).run Tryd.prog w = .ok (.bool (x0 == y0 && x1.toList == y1.toList)) w := by
  simp only [binOp]
  simp [Op.equal, Op.maxDepth, eq_clo 9998]

set_option maxHeartbeats 2000000 in
theorem policy_c (t b f c : Int) (w : World) :
    Calls Tryd.prog 37 #[.agg #[.int .i64 t, .int .i64 b, .int .i64 f, .int .i64 c]] w fun e w' => e = .returned (.bool (policyF t b f c)) ∧ Below w.heap.size w w' := by
  have hq := fun W : World => eq_pol_run W t 0 b 0 f 0 c 0
  have hz : zeroP t b f c = (t == 0 && (b == 0 && (f == 0 && c == 0))) := rfl
  rw [← hz] at hq
  clear hz
  go_enter Tryd.func37, Tryd.ntmps37
  go_wp2
  all_goals go_ret
  all_goals refine ⟨ret_bool ?_, (Below.refl _ _).alloc (Nat.le_refl _) _⟩
  all_goals (clear hq; first | (simp_all [policyF]; done) | (simp_all [policyF]; omega))
set_option maxHeartbeats 2000000 in
theorem goodPolicy_c (t b f c : Int) (w : World) :
    Calls Tryd.prog 58 #[.agg #[.int .i64 t, .int .i64 b, .int .i64 f, .int .i64 c]] w fun e w' => e = .returned (.bool (policyF t b f c)) ∧ Below w.heap.size w w' := by
  have hq := fun W : World => eq_pol_run W t 0 b 0 f 0 c 0
  have hz : zeroP t b f c = (t == 0 && (b == 0 && (f == 0 && c == 0))) := rfl
  rw [← hz] at hq
  clear hz
  go_enter Tryd.func58, Tryd.ntmps58
  go_wp2
  all_goals go_ret
  all_goals refine ⟨ret_bool ?_, (Below.refl _ _).alloc (Nat.le_refl _) _⟩
  all_goals (clear hq; first | (simp_all [policyF]; done) | (simp_all [policyF]; omega))
def cloErr (k : Int) (s : ByteArray) : Int := if k < 0 ∨ 3 < k ∨ (k < 2 ∧ s.toList.isEmpty = false) then 51 else if 4096 < s.size then 3 else 0
set_option maxHeartbeats 2000000 in
theorem closer_c (k : Int) (s : ByteArray) (w : World) (hs : s.size ≤ 140737488355328) :
    Calls Tryd.prog 59 #[.agg #[.int .i64 k, .string s]] w fun e w' => e = .returned (.int .i64 (cloErr k s)) ∧ Below w.heap.size w w' := by
  by_cases hse : s.size = 0
  · have he : s.toList.isEmpty = true := by rw [List.isEmpty_iff, size_zero]; exact hse
    go_enter Tryd.func59, Tryd.ntmps59
    go_wp2
    all_goals go_ret
    all_goals refine ⟨ret_int ?_, (Below.refl _ _).alloc (Nat.le_refl _) _⟩
    all_goals (unfold cloErr; rw [he]; first | (rw [if_pos (by omega)]; done) | (rw [if_neg (by simp; omega), if_neg (by omega)]))
  · have he : s.toList.isEmpty = false := by rw [List.isEmpty_eq_false_iff, ne_eq, size_zero]; exact hse
    go_enter Tryd.func59, Tryd.ntmps59
    go_wp2
    all_goals go_ret
    all_goals refine ⟨ret_int ?_, (Below.refl _ _).alloc (Nat.le_refl _) _⟩
    all_goals (unfold cloErr; rw [he]; first | (rw [if_pos (by simp; omega)]; done) | (rw [if_neg (by simp; omega), if_pos (by omega)]; done) | (rw [if_neg (by simp; omega), if_neg (by omega)]; done))

/-- A provider. -/
structure XProv where
  name : ByteArray
  expr : List XOp
  again : Bool
  p1 : Int
  p2 : Int
  p3 : Int
  p4 : Int
  ck : Int
  ct : ByteArray
/-- A provider as a value; its expression lies at A. -/
def XProv.val (p : XProv) (A : Option Addr) (c : Nat) : Value :=
  .agg #[.string p.name, .slice A p.expr.length c, .bool p.again, .int .i64 p.p1, .int .i64 p.p2, .int .i64 p.p3, .int .i64 p.p4, .int .i64 p.ck, .string p.ct]
/-- CheckProvider's answer. -/
def provF (p : XProv) : Int :=
  if isName p.name = false then 2
  else if checkF p.expr ≠ 0 then checkF p.expr
  else if policyF p.p1 p.p2 p.p3 p.p4 = false then 50
  else cloErr p.ck p.ct
structure ProvAt (w : World) (A : Option Addr) (p : XProv) : Prop where
  ops : OpsAt w A p.expr
  len : p.expr.length * 40 ≤ 140737488355328
  name : p.name.size ≤ 140737488355328
  ct : p.ct.size ≤ 140737488355328
  text : ∀ o ∈ p.expr, o.text.size ≤ 140737488355328
set_option maxHeartbeats 4000000 in
set_option maxRecDepth 100000 in
theorem checkProvR_c (p : XProv) (A : Option Addr) (c : Nat) (w : World) (hp : ProvAt w A p) :
    Calls Tryd.prog 38 #[p.val A c] w fun e w' => e = .returned (.int .i64 (provF p)) ∧ Below w.heap.size w w' := by
  obtain ⟨n, es, ag, p1, p2, p3, p4, ck, ct⟩ := p
  obtain ⟨hx, hl, hn, hct, ht⟩ := hp
  simp only [XProv.val] at *
  go_enter Tryd.func38, Tryd.ntmps38
  go_wp2_with (first | (go_at_call 56; refine (name_c _ _ hn).mono ?_; rintro e w1 ⟨rfl, hb1⟩; obtain ⟨hc1, _⟩ := bcell hb1; have hx1 := (hx.below ((Below.refl _ _).alloc (Nat.le_refl _) _)).below hb1; have bw1 : Below w.heap.size w w1 := ((Below.refl _ _).alloc (Nat.le_refl _) _).trans (hb1.mono (by simp)); have hs1 : w.heap.size < w1.heap.size := Nat.lt_of_lt_of_le (by simp) hb1.size) | (go_at_call 57; refine (checkR_c es A c _ hx1 hl ht).mono ?_; rintro e w2 ⟨rfl, hb2⟩; obtain ⟨hc2, _⟩ := bcell hb2; have bw2 := bw1.trans (hb2.mono bw1.size); have hs2 : w.heap.size < w2.heap.size := Nat.lt_of_lt_of_le hs1 hb2.size) | (go_at_call 58; refine (goodPolicy_c _ _ _ _ _).mono ?_; rintro e w3 ⟨rfl, hb3⟩; obtain ⟨hc3, _⟩ := bcell hb3; have bw3 := bw2.trans (hb3.mono bw2.size); have hs3 : w.heap.size < w3.heap.size := Nat.lt_of_lt_of_le hs2 hb3.size) | (go_at_call 59; refine (closer_c _ _ _ hct).mono ?_; rintro e w4 ⟨rfl, hb4⟩; have bw4 := bw3.trans (hb4.mono bw3.size)))
  all_goals go_ret
  all_goals refine ⟨ret_int ?_, by first | exact bw4 | exact bw3 | exact bw2 | exact bw1⟩
  all_goals (simp_all [provF])
end Go.Proofs.YtofmdmmgbfbaoaaDoor
