/- The texts of a kind (names.texts). -/
import Derived.Test.YtofmdmmgbfbaoaaDoorA2
namespace Go.Proofs.YtofmdmmgbfbaoaaDoor
open Go.RowKit

def textsFrom (kind : Int) : List XOp → List ByteArray → List ByteArray
  | [], out => out
  | o :: es, out => textsFrom kind es (if o.kind = kind ∧ memB o.text out = false then out ++ [o.text] else out)
def textsF (es : List XOp) (kind : Int) : List ByteArray := textsFrom kind es []
theorem textsFrom_drop (kind : Int) (es : List XOp) (k : Nat) (h : k < es.length) (out : List ByteArray) :
    textsFrom kind (es.drop k) out = textsFrom kind (es.drop (k + 1)) (if es[k].kind = kind ∧ memB es[k].text out = false then out ++ [es[k].text] else out) := by
  rw [List.drop_eq_getElem_cons h, textsFrom]
theorem info_str : (Tryd.prog.info? 9).map (fun i => (i.zero, i.size, i.bytes)) = some (some (.string ⟨#[]⟩), 1, 16) := by kernel_rfl

set_option maxHeartbeats 1000000 in
theorem texts_c (es : List XOp) (kind : Int) (A : Option Addr) (c : Nat) (w : World) (hx : OpsAt w A es) (hl : es.length * 40 ≤ 140737488355328) :
    Calls Tryd.prog 48 #[.slice A es.length c, .int .i64 kind] w fun e w' => ∃ v, e = .returned v ∧ w'.ownsRow w.heap.size 9 1 v (textsF es kind).length ((textsF es kind).map Value.string) ∧ Below w.heap.size w w' := by
  go_enter Tryd.func48, Tryd.ntmps48
  go_wp2
  go_loopw [5, 10] (fun v i wr => ∃ (k : Nat) (out : List ByteArray), k ≤ es.length ∧ i = .int .i64 k ∧ out.length ≤ k ∧ textsFrom kind (es.drop k) out = textsF es kind ∧ wr.ownsRow w.heap.size 9 1 v (out.map Value.string).length (out.map Value.string) ∧ Below w.heap.size w wr) (fun _ i _ => es.length - (intOf i).toNat)
  case atStart => exact ⟨0, [], by omega, rfl, by simp, rfl, World.ownsRow_nil _ _ _ _, Below.refl _ _⟩
  case round =>
    obtain ⟨k, out, hk, rfl, ho, hr, hown, hbel⟩ := hrel
    have HR := Lib.hid hr
    clear hr
    by_cases hlt : k < es.length
    · rcases hx with rfl | ⟨b, off, rfl, hb, hc⟩
      · simp at hlt
      · obtain ⟨h0, h1, h2, h3⟩ := hc k hlt
        obtain ⟨hcc, hff⟩ := bcell hbel
        have g0 := (hcc b (off + k * 4) hb).trans h0
        have g1 := (hcc b (off + k * 4 + 1) hb).trans h1
        have g2 := (hcc b (off + k * 4 + 2) hb).trans h2
        have g3 := (hcc b (off + k * 4 + 3) hb).trans h3
        have hbr : b < wr.heap.size := Nat.lt_of_lt_of_le hb hbel.size
        clear hc h0 h1 h2 h3 hcc hff
        obtain ⟨A1, c1, rfl, hs, hl1⟩ := own_strs hown
        clear hl1
        have hu : textsFrom kind (es.drop k) out = _ := textsFrom_drop kind es k hlt out
        have HU := Lib.hid hu
        clear hu
        have hbs := hbel.size
        go_wp2_with (first | (go_at_call 49; refine (contains_str out _ _ _ _ (hs.below ((Below.refl _ _).alloc (Nat.le_refl _) _)) (by omega)).mono ?_; rintro e w' ⟨rfl, rfl⟩) | (at_builtin; refine app_one (w0 := w) w.heap.size rfl _ _ 38 9 (.string ⟨#[]⟩) 16 rfl Tryd.underlying38 info_str rfl _ (out.map Value.string) (.string es[k].text) rfl _ rfl (by simp) rfl (hown.alloc _) (hbel.alloc hbs _) (by simp; omega) (by simp; omega) (by simp; omega) ?_; intro v1 w1 hown1 hbel1 _ _))
        · go_roundw
          case rel => exact ⟨k + 1, out ++ [es[k].text], by omega, by go_num, by simp; omega, by rw [← HR.out, HU.out, if_pos]; simp_all, by simpa using hown1, hbel1⟩
          case measure => simp [intOf]; omega
        · go_roundw
          case rel => exact ⟨k + 1, out, by omega, by go_num, by omega, by rw [← HR.out, HU.out, if_neg]; simp_all, hown.alloc _, hbel.alloc hbs _⟩
          case measure => simp [intOf]; omega
        · go_roundw
          case rel => exact ⟨k + 1, out, by omega, by go_num, by omega, by rw [← HR.out, HU.out, if_neg]; simp_all, hown.alloc _, hbel.alloc hbs _⟩
          case measure => simp [intOf]; omega
    · have hz : out = textsF es kind := by rw [← HR.out, List.drop_of_length_le (by omega), textsFrom]
      have HZ := Lib.hid hz
      clear hz
      go_wp2
      go_ret
      refine ⟨_, rfl, ?_, hbel⟩
      rw [← HZ.out]; simpa using hown
end Go.Proofs.YtofmdmmgbfbaoaaDoor
