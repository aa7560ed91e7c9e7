/- Copies and comparisons of expressions. -/
import Derived.Test.YtofmdmmgbfbaoaaDoorA3
namespace Go.Proofs.YtofmdmmgbfbaoaaDoor
open Go.RowKit

theorem info_op : (Tryd.prog.info? 58).map (fun i => (i.zero, i.size, i.bytes)) = some (some (.agg #[.int .i64 0, .int .i64 0, .int .i64 0, .string ⟨#[]⟩]), 4, 40) := by kernel_rfl
theorem copyExpr_c (es : List XOp) (A : Option Addr) (c : Nat) (w : World) (hx : OpsAt w A es) (hl : es.length * 40 ≤ 140737488355328) :
    Calls Tryd.prog 23 #[.slice A es.length c] w fun e w' => ∃ v, e = .returned v ∧ w'.ownsRow w.heap.size 58 4 v es.length (opCells es) ∧ Below w.heap.size w w' := by
  obtain ⟨i0, hi0, hz0, hz1, hz2⟩ := info_parts info_op
  have hr := hx.reads
  have h1 := opCells_one es
  go_enter Tryd.func23, Tryd.ntmps23
  go_wp2_with (at_builtin; refine wpList_append_any _ rfl _ _ _ rfl w.heap.size 58 i0 _ 4 40 Tryd.underlying30 hi0 hz0 hz1 hz2 rfl (by omega) _ 0 [] rfl (World.ownsRow_made w #[] 0 (Nat.le_refl _) (by simp [maxLen]) (by simp)) w.heap.size A es.length c _ rfl (hr.alloc (Nat.le_refl _) _) h1 (by simp only [maxLen]; omega) (by omega) (by simp) ?_; intro v1 w1 hown1 hg1 hat1)
  go_ret
  refine ⟨v1, rfl, by simpa using hown1, ((Below.refl _ _).alloc (Nat.le_refl _) _).grown hg1 (by simp) (fun k hk => ?_)⟩
  have : w.heap.size = k := by
    have : (Value.slice (some ⟨w.heap.size, 0, none⟩) 0 0).ownBlock = some k := hk
    simpa [Value.ownBlock] using this
  omega

def opB (a b : XOp) : Bool := a.kind == b.kind && (a.n == b.n && (a.int == b.int && a.text.toList == b.text.toList))
theorem eq_op (d : Nat) (w : World) (x0 y0 x1 y1 x2 y2 : Int) (x3 y3 : ByteArray) :
    (Op.equalIn (d + 2) 58 (.agg #[.int .i64 x0, .int .i64 x1, .int .i64 x2, .string x3]) (.agg #[.int .i64 y0, .int .i64 y1, .int .i64 y2, .string y3])).run Tryd.prog w = .ok (x0 == y0 && (x1 == y1 && (x2 == y2 && (x3.toList == y3.toList && true)))) w := by
  refine eqs_of Tryd.underlying58 (by kernel_rfl) ?_
  refine eqs_cons (by rfl) (by go_simp; rfl) (by go_simp; rfl) (by go_simp) ?_
  refine eqs_cons (by rfl) (by go_simp; rfl) (by go_simp; rfl) (by go_simp) ?_
  refine eqs_cons (by rfl) (by go_simp; rfl) (by go_simp; rfl) (by go_simp) ?_
  exact eqs_cons (by rfl) (by go_simp; rfl) (by go_simp; rfl) (by go_simp) eqs_nil
theorem neq_op_run (w : World) (x0 y0 x1 y1 x2 y2 : Int) (x3 y3 : ByteArray) :
    (binOp .neq 58 (.agg #[.int .i64 x0, .int .i64 x1, .int .i64 x2, .string x3]) (.agg #[.int .i64 y0, .int .i64 y1, .int .i64 y2, .string y3])).run Tryd.prog w = .ok (.bool (!opB ⟨x0, x1, x2, x3⟩ ⟨y0, y1, y2, y3⟩)) w := by
  simp only [binOp]
  simp [Op.equal, Op.maxDepth, eq_op 9998, opB]
theorem opB_iff (a b : XOp) : opB a b = true ↔ a = b := by
  cases a; cases b
  simp only [opB, Bool.and_eq_true, beq_iff_eq, XOp.mk.injEq]
  exact ⟨fun h => ⟨h.1, h.2.1, h.2.2.1, bytes_ext h.2.2.2⟩, fun h => ⟨h.1, h.2.1, h.2.2.1, by rw [h.2.2.2]⟩⟩
set_option maxHeartbeats 1000000 in
theorem sameExpr_loop (es fs : List XOp) (A B : Option Addr) (c d : Nat) (w : World) (hx : OpsAt w A es) (hy : OpsAt w B fs) (hl : es.length * 40 ≤ 140737488355328) (he : es.length = fs.length) :
    Calls Tryd.prog 24 #[.slice A es.length c, .slice B fs.length d] w fun e w' => (∃ b, e = .returned (.bool b) ∧ (b = true ↔ es = fs)) ∧ ∃ n, w' = w.drewN n := by
  have hb : ((es.length : Int) != (fs.length : Int)) = false := by rw [he]; simp
  have HE := Lib.hid he
  clear he
  go_enter Tryd.func24, Tryd.ntmps24
  go_wp2
  go_loopw [5] (fun i wr => ∃ k : Nat, k ≤ es.length ∧ i = .int .i64 k ∧ Hid (es.take k = fs.take k) ∧ ∃ n, wr = w.drewN n) (fun i _ => es.length - (intOf i).toNat)
  case atStart => exact ⟨0, by omega, rfl, rfl, 0, rfl⟩
  case round =>
    obtain ⟨k, hk, rfl, hr, n, rfl⟩ := hrel
    by_cases hlt : k < es.length
    · have hlt' : k < fs.length := by rw [← HE.out]; exact hlt
      rcases hx with rfl | ⟨b, off, rfl, hb, hc⟩
      · simp at hlt
      rcases hy with rfl | ⟨b', off', rfl, hb', hc'⟩
      · simp at hlt'
      obtain ⟨h0, h1, h2, h3⟩ := hc k hlt
      obtain ⟨g0, g1, g2, g3⟩ := hc' k hlt'
      clear hc hc'
      have hq := fun W : World => neq_op_run W es[k].kind fs[k].kind es[k].n fs[k].n es[k].int fs[k].int es[k].text fs[k].text
      go_wp2
      go_quiet (fail)
      go_wp2
      · have hne : opB es[k] fs[k] = false := by have : (!opB es[k] fs[k]) = true := by assumption
                                                 simpa using this
        go_ret
        refine ⟨⟨false, rfl, by simp, fun h => ?_⟩, _, World.drewN_drewN ..⟩
        subst h
        rw [(opB_iff _ _).2 rfl] at hne
        cases hne
      · have heq : opB es[k] fs[k] = true := by have : (!opB es[k] fs[k]) = false := by assumption
                                                simpa using this
        go_roundw
        case rel => exact ⟨k + 1, by omega, by go_num, take_next hr.out hlt hlt' ((opB_iff _ _).1 heq), _, rfl⟩
        case measure => simp [intOf]; omega
    · go_wp2
      go_ret
      exact ⟨⟨true, rfl, by simp; exact take_all hr.out (by omega) (by have := HE.out; omega)⟩, _, rfl⟩
theorem sameExpr_c (es fs : List XOp) (A B : Option Addr) (c d : Nat) (w : World) (hx : OpsAt w A es) (hy : OpsAt w B fs) (hl : es.length * 40 ≤ 140737488355328) :
    Calls Tryd.prog 24 #[.slice A es.length c, .slice B fs.length d] w fun e w' => (∃ b, e = .returned (.bool b) ∧ (b = true ↔ es = fs)) ∧ ∃ n, w' = w.drewN n := by
  by_cases he : es.length = fs.length
  · exact sameExpr_loop es fs A B c d w hx hy hl he
  · have hb : ((es.length : Int) != (fs.length : Int)) = true := by simp; omega
    go_enter Tryd.func24, Tryd.ntmps24
    go_wp2
    go_ret
    exact ⟨⟨false, rfl, by simp; exact fun h => he (by rw [h])⟩, 0, rfl⟩
end Go.Proofs.YtofmdmmgbfbaoaaDoor
