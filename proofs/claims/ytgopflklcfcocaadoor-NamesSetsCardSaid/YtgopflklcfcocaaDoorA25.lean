/- The law NamesParts. -/
import Derived.Test.YtgopflklcfcocaaDoorA24
import Derived.Test.YtgopflklcfcocaaDoorA19
namespace Go.Proofs.YtgopflklcfcocaaDoor
open Go.RowKit

theorem parts_len (es : List XOp) (pos : Int) : (partsAns es pos).2.length ≤ 256 := by
  unfold partsAns
  split
  · simp
  · next h0 =>
    split
    · simp
    · next h1 =>
      split
      · next fr st o hb ho =>
        have h0' : checkF es = 0 := by simpa using h0
        obtain ⟨hlen, fr', b, hbg⟩ := check_zero h0'
        rw [hb] at hbg
        cases hbg
        obtain ⟨hfl, _, _, hg⟩ := begins_good hb
        have hW := whole_of hlen hfl hg
        have hlt : pos.toNat < es.length := by omega
        obtain ⟨m, hm, hm2, _⟩ := hW.parts pos.toNat hlt
        rw [List.getElem?_eq_getElem hlt] at ho
        cases ho
        simp only [partsGo_length]
        omega
      · simp
theorem ren_len (es : List XOp) (f t : ByteArray) : (renAns es f t).2.length ≤ es.length := by
  unfold renAns
  split
  · simp
  · split <;> simp
theorem own_full {w : World} {base : Nat} {e : TypeId} {n cx : Nat} {X : Option Addr} {xs : List Value} (h : w.ownsRow base e 4 (.slice X n cx) n xs) :
    (X = none ∧ n = 0 ∧ cx = 0) ∨ ∃ g ys, X = some ⟨g, 0, none⟩ ∧ n ≤ cx ∧ cx ≤ 9223372036854775807 ∧ w.ownsRow base e 4 (.slice (some ⟨g, 0, none⟩) cx cx) cx ys := by
  obtain ⟨h1, h2⟩ := h
  rcases h2 with ⟨hv, h0⟩ | ⟨g, cap, cur, hv, hg, hh, hn, hcap, hsz, htake⟩
  · cases hv
    exact .inl ⟨rfl, rfl, rfl⟩
  · cases hv
    refine .inr ⟨g, cur.toList.take (cx * 4), rfl, hn, by simpa [maxLen] using hcap, ?_, .inr ⟨g, cx, cur, rfl, hg, hh, Nat.le_refl _, hcap, hsz, rfl⟩⟩
    rw [List.length_take, Array.length_toList, hsz]; omega
/-- Equality of an answer with itself, as the walk asks it. -/
theorem self_ne (a : Int) : (a != a) = false := by simp

set_option maxHeartbeats 4000000 in
set_option maxRecDepth 100000 in
theorem namesParts_c (es : List XOp) (pos : Int) (f t : ByteArray) (A : Option Addr) (c : Nat) (w : World) (hx : OpsAt w A es) (hl : es.length * 40 ≤ 140737488355328) (ht : ∀ o ∈ es, o.text.size ≤ 140737488355328) (hf : f.size ≤ 140737488355328) (htt : t.size ≤ 140737488355328) (hkeys : KeysIn w) :
    Calls Tryd.prog 4 #[.slice A es.length c, .int .i64 pos, .string f, .string t] w fun e w' => e = .returned (.bool true) ∧ Below w.heap.size w w' := by
  have hpl := parts_len es pos
  have hrl := ren_len es f t
  generalize hpa : partsAns es pos = pa at *
  generalize hra : renAns es f t = ra at *
  obtain ⟨pc, pl⟩ := pa
  obtain ⟨rc, rl⟩ := ra
  simp only at hpl hrl
  have HPA := Lib.hid hpa
  have HRA := Lib.hid hra
  clear hpa hra
  have hPN := fun (W : World) (B : Option Addr) (d : Nat) h1 h2 => (partsN_c es pos B d W h1 hl h2 ht).mono (fun e w' (hp : PartsPost es pos W e w') => (show ∃ B d, e = .returned (.tuple #[.slice B pl.length d, .int .i64 pc]) ∧ NatsAt w' B pl ∧ Below W.heap.size W w' from by
    unfold PartsPost at hp
    rw [HPA.out] at hp
    obtain ⟨v, rfl, hown, hb⟩ := hp
    obtain ⟨B, d, rfl, hn, _⟩ := own_nats hown
    exact ⟨B, d, rfl, hn, hb⟩))
  have hPR := fun (W : World) (B : Option Addr) (d : Nat) h1 => (partsR_c es pos B d W h1 hl ht).mono (fun e w' (hp : PartsPost es pos W e w') => (show ∃ B d, e = .returned (.tuple #[.slice B pl.length d, .int .i64 pc]) ∧ NatsAt w' B pl ∧ Below W.heap.size W w' from by
    unfold PartsPost at hp
    rw [HPA.out] at hp
    obtain ⟨v, rfl, hown, hb⟩ := hp
    obtain ⟨B, d, rfl, hn, _⟩ := own_nats hown
    exact ⟨B, d, rfl, hn, hb⟩))
  have hRN := fun (W : World) (B : Option Addr) (d : Nat) h1 h2 => (renameN_c es f t B d W h1 hl h2 ht hf htt).mono (fun e w' (hp : RenPost es f t W e w') => (show ∃ X d, e = .returned (.tuple #[.slice X rl.length d, .int .i64 rc]) ∧ OpsAt w' X rl ∧ w'.ownsRow W.heap.size 45 4 (.slice X rl.length d) rl.length (opCells rl) ∧ Below W.heap.size W w' from by
    unfold RenPost at hp
    rw [HRA.out] at hp
    obtain ⟨v, rfl, hown, hb⟩ := hp
    obtain ⟨X, d, rfl, hn, _⟩ := own_ops hown
    exact ⟨X, d, rfl, hn, hown, hb⟩))
  have hRR := fun (W : World) (B : Option Addr) (d : Nat) h1 => (renameR_c es f t B d W h1 hl ht hf htt).mono (fun e w' (hp : RenPost es f t W e w') => (show ∃ X d, e = .returned (.tuple #[.slice X rl.length d, .int .i64 rc]) ∧ OpsAt w' X rl ∧ Below W.heap.size W w' from by
    unfold RenPost at hp
    rw [HRA.out] at hp
    obtain ⟨v, rfl, hown, hb⟩ := hp
    obtain ⟨X, d, rfl, hn, _⟩ := own_ops hown
    exact ⟨X, d, rfl, hn, hb⟩))
  have HPN := Lib.hid hPN
  have HPR := Lib.hid hPR
  have HRN := Lib.hid hRN
  have HRR := Lib.hid hRR
  clear hPN hPR hRN hRR
  have hlr : rl.length * 40 ≤ 140737488355328 := by omega
  go_enter Tryd.func4, Tryd.ntmps4
  go_upto_region 10 with (first | (go_at_call 11; refine (copyExpr_f es A c _ hx hl).mono ?_; rintro e w1 ⟨A1, c1, rfl, hs1, _, hb1⟩; have hx1 := hx.below hb1; have hk1 := hkeys.below hb1) | (go_at_call 19; refine (HPN.out _ A1 c1 hs1 hk1).mono ?_; rintro e w2 ⟨B2, d2, rfl, hn2, hb2⟩; have hbw2 := hb1.trans (hb2.mono hb1.size)) | (go_at_call 20; refine (HPR.out _ A c (hx.below hbw2)).mono ?_; rintro e w3 ⟨B3, d3, rfl, hn3, hb3⟩; have hbw3 := hbw2.trans (hb3.mono hbw2.size)) | (go_at_call 21; refine (sameInts_c pl B2 B3 d2 d3 _ (hn2.below hb3) hn3 (by omega)).mono ?_; rintro e w4 ⟨rfl, hb4⟩; have hbw4 := hbw3.trans (hb4.mono hbw3.size)) | (go_at_call 22; refine (HRN.out _ A1 c1 (((hs1.below hb2).below hb3).below hb4) (hkeys.below hbw4)).mono ?_; rintro e w5 ⟨X5, d5, rfl, hx5, hown5, hb5⟩; have hbw5 := hbw4.trans (hb5.mono hbw4.size)) | (go_at_call 23; refine (HRR.out _ A c (hx.below hbw5)).mono ?_; rintro e w6 ⟨X6, d6, rfl, hx6, hb6⟩; have hbw6 := hbw5.trans (hb6.mono hbw5.size)) | (go_at_call 17; refine (sameExpr_b rl X5 X6 d5 d6 _ (hx5.below hb6) hx6 hlr).mono ?_; rintro e w7 ⟨rfl, hb7⟩; have hbw7 := hbw6.trans (hb7.mono hbw6.size)))
  have ops4 := ((hs1.below hb2).below hb3).below hb4
  have hx4 := hx.below hbw4
  have hk57 : Below w4.heap.size w4 w7 := (hb5.trans (hb6.mono hb5.size)).trans (hb7.mono (Nat.le_trans hb5.size hb6.size))
  have own7 := own_below (own_below hown5 hb6) hb7
  have hcs := own_full own7
  clear hown5 hx5 hx6 hb5 hb6 hb7 hn2 hn3 hb2 hb3 hb4 hb1 hs1 hx1 hk1 own7 hx HPN HPR HRN HRR HPA HRA
  rcases hcs with ⟨rfl, hn0, rfl⟩ | ⟨g, ys, rfl, hncx, hcx, own⟩
  · rw [hn0]
    go_wp2
    go_loop [16] (fun i => i = .int .i64 ((0 : Nat) : Int)) (fun _ => 0)
    case atStart => rfl
    case round =>
      obtain rfl := hrel
      go_wp2_with (go_at_call 17; refine (sameExpr_b es A1 A c1 c _ (ops4.below hk57) (hx4.below hk57) hl).mono ?_; rintro e w8 ⟨rfl, hb8⟩)
      go_ret
      exact ⟨rfl, hbw7.trans (hb8.mono hbw7.size)⟩
  · have hz0 : (0 : Int) ≤ (d5 : Int) := Int.natCast_nonneg _
    have hz1 : (d5 : Int) ≤ (d5 : Int) := Int.le_refl _
    go_wp2
    go_loopw [16] (fun i wr => ∃ (k : Nat) (zs : List Value), k ≤ d5 ∧ i = .int .i64 k ∧ wr.ownsRow w4.heap.size 45 4 (.slice (some ⟨g, 0, none⟩) d5 d5) d5 zs ∧ Below w4.heap.size w4 wr) (fun i _ => d5 - (intOf i).toNat)
    case atStart => exact ⟨0, ys, by omega, rfl, own, hk57⟩
    case round =>
      obtain ⟨k, zs, hk, rfl, hown, hbel⟩ := hrel
      by_cases hlt : k < d5
      · have hi0 : (0 : Int) ≤ (k : Int) := Int.natCast_nonneg _
        have hi1 : (k : Int) < (d5 : Int) := by omega
        obtain ⟨v0, e0⟩ := own_cell_any hown (k * 4) (by omega)
        obtain ⟨v1, e1⟩ := own_cell_any hown (k * 4 + 1) (by omega)
        obtain ⟨v2, e2⟩ := own_cell_any hown (k * 4 + 2) (by omega)
        obtain ⟨v3, e3⟩ := own_cell_any hown (k * 4 + 3) (by omega)
        have z0 := hown.frozenAt (k * 4)
        have z1 := hown.frozenAt (k * 4 + 1)
        have z2 := hown.frozenAt (k * 4 + 2)
        have z3 := hown.frozenAt (k * 4 + 3)
        have hgb := (own_blk hown).1
        go_wp2
        go_roundw
        case rel =>
          go_light
          exact ⟨k + 1, _, by omega, by go_num, ((((hown.stored (k * 4) _).1.stored (k * 4 + 1) _).1.stored (k * 4 + 2) _).1.stored (k * 4 + 3) _).1, (((hbel.setCell (p := ⟨g, k * 4, none⟩) hgb _).setCell (p := ⟨g, k * 4 + 1, none⟩) hgb _).setCell (p := ⟨g, k * 4 + 2, none⟩) hgb _).setCell (p := ⟨g, k * 4 + 3, none⟩) hgb _⟩
        case measure => simp [intOf]; omega
      · go_wp2_with (go_at_call 17; refine (sameExpr_b es A1 A c1 c _ (ops4.below hbel) (hx4.below hbel) hl).mono ?_; rintro e w8 ⟨rfl, hb8⟩)
        go_ret
        exact ⟨rfl, (hbw4.trans (hbel.mono hbw4.size)).trans (hb8.mono (Nat.le_trans hbw4.size hbel.size))⟩
end Go.Proofs.YtgopflklcfcocaaDoor
