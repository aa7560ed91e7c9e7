/- An append of a row that lies anywhere. -/
import Derived.Test.YtpdfcffeinbcaaaM1
namespace Go.Proofs.Ytpdfcffeinbcaaa
open Go.RowKit
theorem RowAt.reads {w : World} {X : Option Addr} {xs : List Value} (h : RowAt w X xs) : Reads w w.heap.size 1 X xs.length xs := by
  refine ⟨by simp, fun hn => ?_⟩
  rcases h with h | ⟨b, off, e, hl, hc⟩
  · rw [h] at hn; simp at hn
  · refine ⟨_, e, hl, fun j u hu => ?_⟩
    obtain ⟨hj, e2⟩ := List.getElem?_eq_some_iff.1 hu
    have e0 : (⟨b, off, none⟩ : Addr).add j = ⟨b, off + j, none⟩ := by
      unfold Addr.add; split <;> simp_all
    rw [e0, hc j hj, e2]
theorem app_row {P : Program} {ops : Array Oper} {rest : List Oper} {o : Oper} {a : Act} {Q : Exit → Act → World → Prop} {W : World} (base : Nat) (hgd : o.guard = none) (s x : Operand) (t e : TypeId) (z : Value) (bytes : Nat)
    (ho : o.op = .call { callee := .builtin .append, args := #[s, x], argTypes := #[t, t] })
    (ht : P.underlying t = some (.slice e)) (hinfo : (P.info? e).map (fun i => (i.zero, i.size, i.bytes)) = some (some z, 1, bytes)) (hz : z.cells.size = 1)
    (v : Value) (xs : List Value) (hs : a.eval s = v) (X : Option Addr) (m c : Nat) (news : List Value) (hx : a.eval x = .slice X m c) (hm : m = news.length) (hr : RowAt W X news) (h1 : ∀ u ∈ news, u.oneCell' = true)
    (HO : W.ownsRow base e 1 v xs.length xs) (hbase : base ≤ W.heap.size) (hlen : xs.length + m ≤ 140737488355328) (hl : (xs.length + m) * bytes ≤ 140737488355328)
    (h : ∀ v1 w1, w1.ownsRow base e 1 v1 (xs.length + m) (xs ++ news) → W.grownBy w1 v.ownBlock → (v1.ownBlock = v.ownBlock ∨ v1.ownBlock = some W.heap.size) → wpList P ops Q rest (a.put o.dst v1) w1) :
    wpList P ops Q (o :: rest) a W := by
  obtain ⟨i0, hi, hzz⟩ := Option.map_eq_some_iff.1 hinfo
  simp only [Prod.mk.injEq] at hzz
  obtain ⟨hz0, hz1, hz2⟩ := hzz
  subst hm
  exact wpList_append_any W hgd s x t ho base e i0 z 1 bytes ht hi hz0 hz1 hz2 hz (by omega) v xs.length xs hs HO W.heap.size X news.length c news hx hr.reads h1 (by simp only [maxLen]; omega) hl hbase h
end Go.Proofs.Ytpdfcffeinbcaaa
