/- The reference's bound. -/
import Derived.Test.YtofmdmmgbfbaoaaDoorA13
namespace Go.Proofs.YtofmdmmgbfbaoaaDoor
open Go.RowKit

theorem post_none {es : List XOp} {w w' : World} {e : Ending} (h : beginsF es = none) (hp : BeginsPost es w e w') : e = .returned (.tuple #[.slice none 0 0, .bool false]) ∧ Below w.heap.size w w' := by
  obtain ⟨hb1, h1⟩ := hp
  rcases h1 with ⟨_, rfl⟩ | ⟨fr, st, v, h1, _⟩
  · exact ⟨rfl, hb1⟩
  · rw [h] at h1; cases h1
theorem post_some {es : List XOp} {w w' : World} {e : Ending} {fr st : List Nat} (h : beginsF es = some (fr, st)) (hp : BeginsPost es w e w') : ∃ B d, e = .returned (.tuple #[.slice B fr.length d, .bool ((st.length : Int) == 1)]) ∧ NatsAt w' B fr ∧ Below w.heap.size w w' := by
  obtain ⟨hb1, h1⟩ := hp
  rcases h1 with ⟨h1, rfl⟩ | ⟨fr', st', v, h1, rfl, hown⟩
  · rw [h] at h1; cases h1
  · rw [h] at h1
    cases h1
    obtain ⟨B, d, rfl, hn, _⟩ := own_nats hown
    exact ⟨B, d, rfl, hn, hb1⟩
/-- Is there, among the operations ahead of q, a let that binds the local at i? -/
def Binds (es : List XOp) (fr : List Nat) (i q : Nat) : Prop := ∃ k, ∃ hi : i < es.length, ∃ hk : k < es.length, i < k ∧ k < q ∧ es[k].kind = 19 ∧ es[k].text = es[i].text ∧ fr.getD (k - 1) 0 ≤ i
theorem Binds.step {es : List XOp} {fr : List Nat} {i q : Nat} (hi : i < es.length) (hq : q < es.length) (hiq : i < q) : Binds es fr i (q + 1) ↔ Binds es fr i q ∨ (es[q].kind = 19 ∧ es[q].text = es[i].text ∧ fr.getD (q - 1) 0 ≤ i) := by
  constructor
  · rintro ⟨k, h1, h2, h3, h4, h5, h6, h7⟩
    rcases Nat.lt_or_ge k q with h | h
    · exact .inl ⟨k, h1, h2, h3, h, h5, h6, h7⟩
    · obtain rfl : k = q := by omega
      exact .inr ⟨h5, h6, h7⟩
  · rintro (⟨k, h1, h2, h3, h4, h5, h6, h7⟩ | ⟨h5, h6, h7⟩)
    · exact ⟨k, h1, h2, h3, by omega, h5, h6, h7⟩
    · exact ⟨q, hi, hq, hiq, by omega, h5, h6, h7⟩
theorem bound_iff {es : List XOp} {fr : List Nat} (h1 : 1 ≤ es.length) : BoundAt es fr 0 (es.length - 1) [] ↔ ∀ i (h : i < es.length), es[i].kind = 4 → Binds es fr i es.length := by
  constructor
  · intro h i hi h4
    rcases h i hi (Nat.zero_le _) (by omega) h4 with h | ⟨k, hk, a1, a2, a3⟩
    · simp at h
    · exact ⟨k, hi, hk, a1, hk, a3⟩
  · intro h i hi _ _ h4
    obtain ⟨k, _, hk, a1, a2, a3⟩ := h i hi h4
    exact .inr ⟨k, hk, a1, by omega, a3⟩

set_option maxHeartbeats 4000000 in
set_option maxRecDepth 100000 in
theorem boundR_c (es : List XOp) (fr : List Nat) (b : Nat) (A : Option Addr) (c : Nat) (w : World) (hx : OpsAt w A es) (hl : es.length ≤ 256) (ht : ∀ o ∈ es, o.text.size ≤ 140737488355328) (hbg : beginsF es = some (fr, [b])) :
    Calls Tryd.prog 73 #[.slice A es.length c] w fun e w' => ∃ r, e = .returned (.bool r) ∧ (r = true ↔ BoundAt es fr 0 (es.length - 1) []) ∧ Below w.heap.size w w' := by
  obtain ⟨hfl, _, hpos, hg⟩ := begins_good hbg
  have hW := whole_of hl hfl hg
  have hfle := hW.fle
  have hbi := bound_iff (fr := fr) hpos
  have HBI := Lib.hid hbi
  have HBG := Lib.hid hbg
  clear hbg hbi hW hg
  go_enter Tryd.func73, Tryd.ntmps73
  go_wp2_with (go_at_call 72; refine (beginsR_c es A c _ hx (by omega) ht).mono ?_; intro e w1 hp; obtain ⟨B, d, rfl, hn1, hb1⟩ := post_some HBG.out hp; have hx1 := hx.below hb1; clear hp)
  go_loopw [5] (fun i wr => ∃ k n : Nat, k ≤ es.length ∧ i = .int .i64 k ∧ Hid (∀ j (hj : j < es.length), j < k → es[j].kind = 4 → Binds es fr j es.length) ∧ wr = w1.drewN n) (fun i _ => es.length - (intOf i).toNat)
  case atStart => exact ⟨0, 0, by omega, rfl, fun j _ h => by omega, rfl⟩
  case round =>
    obtain ⟨k, n, hk, rfl, hr, rfl⟩ := hrel
    by_cases hlt : k < es.length
    · rcases hx1 with rfl | ⟨bb, off, rfl, hbb, hc⟩
      · simp at hlt
      obtain ⟨h0, h1, h2, h3⟩ := hc k hlt
      by_cases h4 : es[k].kind = 4
      · have h4' : (es[k].kind != 4) = false := by simpa using h4
        have H4 := Lib.hid h4
        clear h4
        have HCC := Lib.hid hc
        clear hc
        go_wp2
        go_loopw [6, 7] (fun f i wr => ∃ (q n : Nat) (fb : Bool), k + 1 ≤ q ∧ q ≤ es.length ∧ i = .int .i64 q ∧ f = .bool fb ∧ Hid (fb = true ↔ Binds es fr k q) ∧ wr = w1.drewN n) (fun _ i _ => es.length - (intOf i).toNat)
        case atStart => exact ⟨k + 1, n, false, by omega, by omega, by go_num, rfl, by simp only [Hid]; simp [Binds]; intros; omega, rfl⟩
        case round =>
          obtain ⟨q, n, fb, hkq, hq, rfl, rfl, hfb, rfl⟩ := hrel
          by_cases hql : q < es.length
          · obtain ⟨q0, q1, q2, q3⟩ := HCC.out q hql
            have hst := Binds.step (fr := fr) hlt hql (by omega)
            have HST := Lib.hid hst
            clear hst
            have hq1 : (q : Int) - 1 = ((q - 1 : Nat) : Int) := by omega
            have hqi : (0 : Int) ≤ (q : Int) := Int.natCast_nonneg _
            have hqj : (q : Int) < (es.length : Int) := by omega
            have hki : (0 : Int) ≤ (k : Int) := Int.natCast_nonneg _
            have hkj : (k : Int) < (es.length : Int) := by omega
            have hfq : q - 1 < fr.length := by omega
            rcases hn1 with hf0 | ⟨bf, of, rfl, hbf, hcf⟩
            · rw [hf0] at hfq; simp at hfq
            have hcq := hcf (q - 1) hfq
            clear hcf
            have hfi : (0 : Int) ≤ ((q - 1 : Nat) : Int) := Int.natCast_nonneg _
            have hfj : ((q - 1 : Nat) : Int) < (fr.length : Int) := by omega
            have hgd : fr.getD (q - 1) 0 = fr[q - 1] := by rw [List.getD_eq_getElem?_getD, List.getElem?_eq_getElem hfq]; rfl
            have HGD := Lib.hid hgd
            clear hgd
            by_cases c1 : es[q].kind = 19
            · have d1 : (es[q].kind == 19) = true := by simpa using c1
              by_cases c2 : es[q].text = es[k].text
              · have d2 : (es[q].text.toList == es[k].text.toList) = true := by rw [bytes_beq]; simpa using c2
                have C1 := Lib.hid c1
                have C2 := Lib.hid c2
                clear c1 c2
                by_cases c3 : fr[q - 1] ≤ k
                · have d3 : decide ((fr[q - 1] : Int) ≤ (k : Int)) = true := by simpa using c3
                  go_wp2_with fail
                  go_quiet (fail)
                  go_wp2
                  go_roundw
                  case rel =>
                    go_light
                    refine ⟨q + 1, _, true, by omega, by omega, by go_num, rfl, ?_, rfl⟩
                    show (true = true ↔ Binds es fr k (q + 1))
                    rw [HST.out, HGD.out]
                    exact ⟨fun _ => .inr ⟨C1.out, C2.out, c3⟩, fun _ => rfl⟩
                  case measure => simp [intOf]; omega
                · have d3 : decide ((fr[q - 1] : Int) ≤ (k : Int)) = false := by simpa using c3
                  go_wp2_with fail
                  go_quiet (fail)
                  go_wp2
                  go_roundw
                  case rel =>
                    go_light
                    refine ⟨q + 1, _, fb, by omega, by omega, by go_num, rfl, ?_, rfl⟩
                    show (fb = true ↔ Binds es fr k (q + 1))
                    rw [HST.out, HGD.out, hfb.out]
                    exact ⟨.inl, fun h => h.resolve_right (fun h => c3 h.2.2)⟩
                  case measure => simp [intOf]; omega
              · have d2 : (es[q].text.toList == es[k].text.toList) = false := by rw [bytes_beq]; simpa using c2
                have C1 := Lib.hid c1
                have C2 := Lib.hid c2
                clear c1 c2
                go_wp2_with fail
                go_quiet (fail)
                go_wp2
                go_roundw
                case rel =>
                  go_light
                  refine ⟨q + 1, _, fb, by omega, by omega, by go_num, rfl, ?_, rfl⟩
                  show (fb = true ↔ Binds es fr k (q + 1))
                  rw [HST.out, hfb.out]
                  exact ⟨.inl, fun h => h.resolve_right (fun h => C2.out h.2.1)⟩
                case measure => simp [intOf]; omega
            · have d1 : (es[q].kind == 19) = false := by simpa using c1
              have C1 := Lib.hid c1
              clear c1
              go_wp2_with fail
              go_quiet (fail)
              go_wp2
              go_roundw
              case rel =>
                go_light
                refine ⟨q + 1, _, fb, by omega, by omega, by go_num, rfl, ?_, rfl⟩
                show (fb = true ↔ Binds es fr k (q + 1))
                rw [HST.out, hfb.out]
                exact ⟨.inl, fun h => h.resolve_right (fun h => C1.out h.1)⟩
              case measure => simp [intOf]; omega
          · have hqe : q = es.length := by omega
            have hf2 := hfb.out
            rw [hqe] at hf2
            cases fb
            · have hno : ¬ BoundAt es fr 0 (es.length - 1) [] := by
                rw [HBI.out]
                intro h
                have := hf2.2 (h k hlt H4.out)
                cases this
              have HNO := Lib.hid hno
              clear hno hf2 hqe
              go_wp2
              go_ret
              exact ⟨_, rfl, ⟨fun h => (by cases h), fun h => absurd h HNO.out⟩, below_drewN hb1 _⟩
            · have hyes := hf2.1 rfl
              have HY := Lib.hid hyes
              clear hyes hf2 hqe
              go_wp2
              go_roundw
              case rel =>
                refine ⟨k + 1, _, by omega, by go_num, fun j hj hjk h => ?_, rfl⟩
                rcases Nat.lt_or_ge j k with h' | h'
                · exact hr.out j hj h' h
                · obtain rfl : j = k := by omega
                  exact HY.out
              case measure => simp [intOf]; omega
      · have h4' : (es[k].kind != 4) = true := by simpa using h4
        have H4 := Lib.hid h4
        clear h4 hc
        go_wp2
        go_roundw
        case rel =>
          refine ⟨k + 1, _, by omega, by go_num, fun j hj hjk h => ?_, rfl⟩
          rcases Nat.lt_or_ge j k with h' | h'
          · exact hr.out j hj h' h
          · obtain rfl : j = k := by omega
            exact absurd h H4.out
        case measure => simp [intOf]; omega
    · have hke : k = es.length := by omega
      have hall := hr.out
      rw [hke] at hall
      have hb3 := HBI.out.2 (fun i h h4 => hall i h h h4)
      have HB3 := Lib.hid hb3
      clear hb3 hall hr hke
      go_wp2
      go_ret
      exact ⟨_, rfl, ⟨fun _ => HB3.out, fun _ => rfl⟩, below_drewN hb1 _⟩
end Go.Proofs.YtofmdmmgbfbaoaaDoor
