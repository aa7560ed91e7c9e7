/- A region that draws its order, in a round. -/
import Derived.Test.YtofmdmmgbfbaoaaDoorG0
import Derived.Deep.RegionHeld3
import Derived.OrdersIn
namespace Go.Proofs.YtofmdmmgbfbaoaaDoor
open Go.RowKit

/-- Is an operation no 'defer'? -/
def plainOp (o : Oper) : Bool := match o.op with
  | .defer _ => false
  | _ => true
theorem plain_ne {o : Oper} (h : plainOp o = true) : ∀ c, o.op ≠ .defer c := by
  intro c e
  unfold plainOp at h
  rw [e] at h
  cases h
section
variable {P : Program} {ops : Array Oper} {Q : Exit → Act → World → Prop} {l n : Nat}
theorem op_in_round {o : Oper} {a : Act} {w : World} {K : Act → World → Prop} (hd : plainOp o = true) (h : o.wp P a w K Q) : o.wpIn (Fence.wide.inRound l) n P a w K Q := by
  refine ⟨fun _ _ => trivial, ?_⟩
  rw [Oper.semAt_eq _ _ _ (plain_ne hd)]
  unfold Oper.wp at h
  revert h
  cases (execOp a.eval o).run P w with
  | ok nx w' =>
    cases nx with
    | value v => exact id
    | skip => exact id
    | defer d => exact id
    | enter f args => exact fun h => ⟨fun e => (by cases e), CallsIn.inRound l (callsIn_wide.2 h)⟩
    | row row args => exact fun h => ⟨fun e => (by cases e), fun c cs _ => (h c cs).elim fun v hv => hv.elim fun w2 h2 => ⟨v, w2, h2.1, stepsIn_wide.2 h2.2⟩⟩
    | _ => exact fun h => h.elim
  | halt x w' => cases x <;> exact id
theorem wpAny_in_round (hd : ∀ (i : Nat) (o : Oper), ops[i]? = some o → plainOp o = true) (hno : ¬ LetsOut Q) : ∀ (fuel : Nat) (listed : Array Bool) (a : Act) (w : World), wpAny P .any ops Q fuel listed a w → wpAnyIn (Fence.wide.inRound l) n P .any ops Q fuel listed a w
  | 0, _, _, _, h => h
  | fuel + 1, listed, a, w, h => by
    refine ⟨h.1, fun i hi => ?_⟩
    have h2 := h.2 i hi
    unfold wpOp at h2
    unfold wpOpIn
    cases ho : ops[i]? with
    | none =>
      rw [ho] at h2
      exact wpAny_in_round hd hno fuel _ a w h2
    | some o =>
      rw [ho] at h2
      simp only at h2 ⊢
      split
      · next hw =>
        rw [if_pos hw] at h2
        rcases h2 with h2 | h2
        · exact op_in_round (hd i o ho) (Oper.wp_mono (fun a w h => wpAny_in_round hd hno fuel _ a w h) h2)
        · exact absurd h2.2 hno
      · next hw =>
        rw [if_neg hw] at h2
        exact ⟨fun _ _ => trivial, wpAny_in_round hd hno fuel _ _ w h2⟩
theorem region_in_round {id : Nat} {a : Act} {w : World} (N : Nat) (hN : ops.size = N) (S : World → Prop) (hm : P.follows .mixedOrders = true) (hd : ops.all plainOp = true) (hno : ¬ LetsOut Q) (hS : S w.drew)
    (h : S w.drew → wpAnyH P .any ops Q S N (Array.replicate N false) a w.drew) : (Code.region id ops true).wpIn (Fence.wide.inRound l) n P Q a w := by
  subst hN
  refine wpIn_region_any hm (wpAny_in_round (fun i o ho => ?_) hno _ _ _ _ (wpAny_of_held _ _ _ _ (h hS)))
  have hi := Array.getElem?_eq_some_iff.1 ho
  obtain ⟨hlt, he⟩ := hi
  have := Array.all_eq_true.1 hd i hlt
  rw [he] at this
  exact this
theorem take_at {S : World → Prop} {md : Region.Mode} {i d : Nat} {oi : Oper} {v : Value} {fuel : Nat} {listed : Array Bool} {a : Act} {w : World} (hi : ops[i]? = some oi) (hd : oi.dst = some d)
    (hs : Region.noSelect ops = true) (hf : Region.free md ops listed i = true) (hr : (Region.ready md ops listed).contains i = true)
    (hQ : ∀ c a w, Q (.panic c) (a.put (some d) v) w → Q (.panic c) a w) (hy : YieldsIf P ops S oi v a) (hS : S w)
    (h : wpAnyH P md ops Q S fuel (listed.setIfInBounds i true) (a.put (some d) v) w) : wpAnyH P md ops Q S (fuel + 1) listed a w :=
  wpAnyH_take hi hs hf hr (by rw [hd]; exact hQ) hy hS (by rw [hd]; exact h)
end
end Go.Proofs.YtofmdmmgbfbaoaaDoor
