/- Going over all that some nodes have a way to. -/
import Derived.Test.YtpdfcffeinbcaaaH3
import Derived.Test.YtpdfcffeinbcaaaH4
import Derived.Test.YtpdfcffeinbcaaaM1
import Derived.Deep.LoopGhost
namespace Go.Proofs.Ytpdfcffeinbcaaa
open Go.RowKit
/-- Which were seen: a row of truths in block sb. -/
def SeenAt (w : World) (sb n : Nat) (all : List Int) : Prop := sb < w.heap.size ∧ (∀ i, i < n → w.cell? ⟨sb, i, none⟩ = some (.bool (decide ((i : Int) ∈ all)))) ∧ ∀ j, w.frozen? ⟨sb, j, none⟩ = false
theorem SeenAt.moves {M : List Nat} {w w1 : World} {sb n : Nat} {all : List Int} (h : SeenAt w sb n all) (hm : Moves M w w1) (hM : sb ∉ M) : SeenAt w1 sb n all :=
  ⟨Nat.lt_of_lt_of_le h.1 hm.2.2.2.1, fun i hi => (hm.cell h.1 hM _).trans (h.2.1 i hi), fun j => (hm.frozen h.1 hM j).trans (h.2.2 j)⟩
theorem SeenAt.set {w : World} {sb n x : Nat} {all : List Int} (h : SeenAt w sb n all) (hx : x < n) : SeenAt (w.setCell ⟨sb, x, none⟩ (.bool true)) sb n (all ++ [(x : Int)]) := by
  refine ⟨by simpa [World.setCell] using h.1, fun i hi => ?_, fun j => by rw [World.frozen?_setCell]; exact h.2.2 j⟩
  by_cases e : i = x
  · subst e
    rw [set_here _ _ _ _ _ (h.2.1 i hi)]
    simp
  · rw [set_far _ _ _ _ _ (fun c => e c.symm), h.2.1 i hi]
    have : ((i : Int) ∈ all ++ [(x : Int)]) ↔ (i : Int) ∈ all := by
      rw [List.mem_append, List.mem_singleton]
      exact ⟨fun h => h.elim id (fun c => by omega), .inl⟩
    simp only [this]
theorem seen_made (w : World) (n : Nat) : SeenAt (w.alloc (.cells (madeCells #[.bool false] n) 4)) w.heap.size n [] := by
  refine ⟨by simp, fun i hi => ?_, fun j => frozen_new _ _ _ _⟩
  rw [cell_new, ← Array.getElem?_toList, toList_madeCells_one]
  simp [hi]
theorem grown_set {w w6 : World} {a : Addr} {u : Value} {r : Option Nat} (h : (w.setCell a u).grownBy w6 r) : Moves (a.block :: r.toList) w w6 :=
  (Moves.set (M := a.block :: r.toList) w a u (by simp)).trans (Moves.of_grown h (by intro k e; simp [e]))
theorem seen_step {w w6 : World} {sb n x : Nat} {all : List Int} {v v6 : Value} {q : List Int} (hs : SeenAt w sb n all) (hq : QueueAt w (sb + 1) v (I q)) (hx : x < n) (hq6 : QueueAt w6 (sb + 1) v6 (I q ++ [.int .i64 (x : Int)])) (hg : (w.setCell ⟨sb, x, none⟩ (.bool true)).grownBy w6 v.ownBlock) :
    QueueAt w6 (sb + 1) v6 (I (q ++ [(x : Int)])) ∧ SeenAt w6 sb n (all ++ [(x : Int)]) ∧ Moves (sb :: v.ownBlock.toList) w w6 := by
  refine ⟨by have e : I (q ++ [(x : Int)]) = I q ++ [.int .i64 (x : Int)] := List.map_append
             rw [e]; exact hq6, (hs.set hx).moves (Moves.of_grown (M := v.ownBlock.toList) hg (by intro k e; simp [e])) (fun h => ?_), grown_set hg⟩
  have := (hq.lt sb (by simpa using h)).1
  omega
theorem new_blocks {w wr : World} {sb : Nat} {v : Value} {q : List Value} {M : List Nat} (hq : QueueAt wr (sb + 1) v q) (hsb : w.heap.size ≤ sb) : ∀ k ∈ sb :: v.ownBlock.toList, k ∈ M ∨ w.heap.size ≤ k := by
  intro k hk
  right
  rcases List.mem_cons.1 hk with rfl | hk
  · exact hsb
  · have := (hq.lt k (by simpa using hk)).1; omega
theorem info_bool : (Try.prog.info? 4).map (fun i => (i.zero, i.size, i.bytes)) = some (some (.bool false), 1, 1) := by kernel_rfl
/-- The blocks O are as they were. -/
def Stays (O : List Nat) (w w' : World) : Prop := w'.os = w.os ∧ w'.tape = w.tape ∧ w'.output = w.output ∧ w.heap.size ≤ w'.heap.size ∧ ∀ k ∈ O, k < w.heap.size → w'.heap[k]? = w.heap[k]?
theorem Stays.refl (O : List Nat) (w : World) : Stays O w w := ⟨rfl, rfl, rfl, Nat.le_refl _, fun _ _ _ => rfl⟩
theorem Stays.trans {O : List Nat} {w w1 w2 : World} (h : Stays O w w1) (g : Stays O w1 w2) : Stays O w w2 :=
  ⟨g.1.trans h.1, g.2.1.trans h.2.1, g.2.2.1.trans h.2.2.1, Nat.le_trans h.2.2.2.1 g.2.2.2.1, fun k hk hl => (g.2.2.2.2 k hk (Nat.lt_of_lt_of_le hl h.2.2.2.1)).trans (h.2.2.2.2 k hk hl)⟩
theorem Stays.of_moves {O M : List Nat} {w w1 : World} (h : Moves M w w1) (hM : ∀ k ∈ M, k ∉ O) : Stays O w w1 :=
  ⟨h.1, h.2.1, h.2.2.1, h.2.2.2.1, fun k hk hl => h.2.2.2.2 k hl (fun hm => hM k hm hk)⟩
/-- What is handed each node in turn: K after so many, on blocks O that are its own. -/
structure Sees (F : FuncId) (c : Value) (n : Nat) (K : List Int → List Nat → World → Prop) : Prop where
  call : ∀ x y (w : World), (callFunc F #[x, y]).run Try.prog w = .ok (.enter F #[x, y]) w
  lt : ∀ {l O w}, K l O w → ∀ o ∈ O, o < w.heap.size
  frame : ∀ {l O w w'}, K l O w → Stays O w w' → K l O w'
  step : ∀ l O (x : Nat) w, K l O w → l.length < n → x < n → Calls Try.prog F #[.int .i64 x, c] w fun e w' => e = .returned (.tuple #[]) ∧ ∃ O', K (l ++ [(x : Int)]) O' w' ∧ Moves O w w' ∧ ∀ o ∈ O', o ∈ O ∨ w.heap.size ≤ o
set_option maxHeartbeats 4000000 in
set_option maxRecDepth 100000 in
theorem reach_c {F : FuncId} {c : Value} {n : Nat} {K : List Int → List Nat → World → Prop} (hF : Sees F c n K) {w : World} {lo : Nat} {v : Value} {ls : Nat → List Int} {X : Option Addr} (d : Nat) {src : List Int} {O0 : List Nat} {adj : Int → List Int}
    (hn : n ≤ 4096) (hl : NextAt w lo v n ls) (hlo : ∀ k ∈ O0, k < lo) (hadj : ∀ i : Nat, i < n → adj i = ls i) (hls : ∀ i, i < n → ∀ y ∈ ls i, 0 ≤ y ∧ y < (n : Int)) (hll : ∀ i, i < n → (ls i).length ≤ 16384) (hr : RowAt w X (I src)) (hrl : src.length ≤ 4096)
    (hsr : ∀ x ∈ src, 0 ≤ x ∧ x < (n : Int)) (hK : K [] O0 w) :
    Calls Try.prog 50 #[v, .slice X src.length d, .func (.func F) #[] #[c]] w fun e w' => e = .returned (.tuple #[]) ∧ ∃ O', K (bfsF adj n src) O' w' ∧ Moves O0 w w' := by
  have hmk : ∀ W : World, (Instr.makeSlice 49 (.int .i64 (n : Int)) (.int .i64 (n : Int))).run Try.prog W = .ok (.slice (some ⟨W.heap.size, 0, none⟩) n n) (W.alloc (.cells (madeCells #[.bool false] n) 4)) :=
    fun W => run_make_row' 49 4 (.bool false) 1 Try.underlying49 info_bool rfl .i64 .i64 n (by omega) (by omega) W
  have hl0 := hl
  obtain ⟨lb, ld, rfl, _⟩ := hl
  have HF := Lib.hid hF
  have HL := Lib.hid hl0
  have HR := Lib.hid hr
  have HSR := Lib.hid hsr
  have HK := Lib.hid hK
  have HLS := Lib.hid hls
  have HADJ := Lib.hid hadj
  have HLL := Lib.hid hll
  have HO := Lib.hid hlo
  have hs0 := seen_made w n
  clear hF hl0 hr hsr hK hls hadj hll hlo
  go_enter Try.func50, Try.ntmps50
  go_wp2
  obtain ⟨w0, hw0⟩ : ∃ w0, w0 = w.alloc (.cells (madeCells #[.bool false] n) 4) := ⟨_, rfl⟩
  rw [← hw0] at hs0 ⊢
  have hm0 : Moves [] w w0 := by rw [hw0]; exact Moves.of_new _ ((Below.refl _ _).alloc (Nat.le_refl _) _)
  have HS0 := Lib.hid hs0
  have HM0 := Lib.hid hm0
  have hz0 : w0.heap.size = w.heap.size + 1 := by rw [hw0, al_size]
  have HZ0 := Lib.hid hz0
  clear hw0 hs0 hm0 hz0
  go_loopw [7, 18] (fun v i wr => ∃ j : Nat, i = .int .i64 j ∧ j ≤ src.length ∧ QueueAt wr (w.heap.size + 1) v (I (pushAll [] (src.take j))) ∧ SeenAt wr w.heap.size n (pushAll [] (src.take j)) ∧ Moves [] w wr ∧ w.heap.size + 1 ≤ wr.heap.size) (fun _ i _ => src.length - (intOf i).toNat)
  case atStart => exact ⟨0, rfl, by omega, queue_nil _ _, HS0.out, HM0.out, by have := HZ0.out; omega⟩
  case round =>
    obtain ⟨j, rfl, hj, hq, hs, hm, hsz⟩ := hrel
    by_cases hlt : j < src.length
    · have hj0 : (0 : Int) ≤ (j : Int) := by omega
      have hj1 : (j : Int) < (src.length : Int) := by omega
      obtain ⟨b, off, rfl, hcj⟩ := (HR.out.moves hm (by simp)).int hlt
      have hxr := HSR.out _ (List.getElem_mem hlt)
      obtain ⟨x, hx⟩ : ∃ x : Nat, (x : Int) = src[j] := ⟨src[j].toNat, by omega⟩
      have hps : pushAll [] (src.take (j + 1)) = if (x : Int) ∈ pushAll [] (src.take j) then pushAll [] (src.take j) else pushAll [] (src.take j) ++ [(x : Int)] := by
        rw [List.take_succ_eq_append_getElem hlt, pushAll_snoc, hx]
      rw [← hx] at hcj hxr
      have hxn : x < n := by omega
      have hx0 : (0 : Int) ≤ (x : Int) := by omega
      have hx1 : (x : Int) < (n : Int) := by omega
      have hcs := hs.2.1 x hxn
      have hfs := hs.2.2 x
      obtain ⟨all, hall⟩ : ∃ all, all = pushAll [] (src.take j) := ⟨_, rfl⟩
      rw [← hall] at hps hq hs hcs
      have hnl : all.length ≤ 4096 := by
        have h1 : all.Nodup := by rw [hall]; exact pushAll_nodup (by simp)
        have h2 : ∀ y ∈ all, 0 ≤ y ∧ y < (n : Int) := fun y hy => by
          rw [hall, mem_pushAll] at hy
          exact HSR.out y (List.mem_of_mem_take (hy.elim (fun h => by cases h) id))
        have := nodup_len n all h1 h2
        omega
      have HPS := Lib.hid hps
      have HQ := Lib.hid hq
      have HS := Lib.hid hs
      have HM := Lib.hid hm
      clear hx hps hq hs hm hall
      by_cases hin : (x : Int) ∈ all
      · have hd : decide ((x : Int) ∈ all) = true := by simpa using hin
        rw [hd] at hcs
        have HIN := Lib.hid hin
        clear hin hd
        go_wp2
        go_roundw
        case rel => exact ⟨j + 1, by go_num, by omega, by rw [HPS.out, if_pos HIN.out]; exact HQ.out, by rw [HPS.out, if_pos HIN.out]; exact HS.out, HM.out, hsz⟩
        case measure => simp [intOf]; omega
      · have hd : decide ((x : Int) ∈ all) = false := by simpa using hin
        rw [hd] at hcs
        have HIN := Lib.hid hin
        clear hin hd
        have hqs := HQ.out.moves (Moves.set (M := [w.heap.size]) wr ⟨w.heap.size, x, none⟩ (.bool true) (by simp)) (fun g e => by have := (HQ.out.lt g e).1; simp; omega)
        have hil : (I all).length = all.length := List.length_map _
        have HQS := Lib.hid hqs
        have HIL := Lib.hid hil
        clear hqs hil
        go_wp2_with (at_builtin; refine app_queue (w.heap.size + 1) (by rfl) _ _ 25 3 (.int .i64 0) 8 (by rfl) Try.underlying25 info_int rfl _ (I all) (.int .i64 (x : Int)) (by rfl) _ (by rfl) (by simp [World.setCell]) rfl HQS.out (by simpa [World.setCell] using hsz) (by have := HIL.out; omega) (by have := HIL.out; omega) ?_; intro v6 w6 hq6 hg6 hb6 hs6)
        have hst := seen_step HS.out HQ.out hxn hq6 hg6
        have HST := Lib.hid hst
        clear hst hq6 hg6 hb6
        go_roundw
        case rel => exact ⟨j + 1, by go_num, by omega, by rw [HPS.out, if_neg HIN.out]; exact HST.out.1, by rw [HPS.out, if_neg HIN.out]; exact HST.out.2.1, HM.out.onto HST.out.2.2 (new_blocks HQ.out (Nat.le_refl _)), Nat.le_trans hsz HST.out.2.2.2.2.2.1⟩
        case measure => simp [intOf]; omega
    · have hge : ¬ (j : Int) < (src.length : Int) := by omega
      rw [show src.take j = src from List.take_of_length_le (by omega)] at hq hs
      have hadj2 : ∀ x y, 0 ≤ x → x < (n : Int) → y ∈ adj x → 0 ≤ y ∧ y < (n : Int) := fun x y h0 h1 hy => by
        obtain ⟨k, rfl⟩ : ∃ k : Nat, x = k := ⟨x.toNat, by omega⟩
        rw [HADJ.out k (by omega)] at hy
        exact HLS.out k (by omega) y hy
      have hk0 : K [] O0 wr := HF.out.frame HK.out (Stays.of_moves hm (by simp))
      have hb0 := bfs_start (adj := adj) HSR.out
      have hol : ∀ o ∈ O0, o < w.heap.size := HF.out.lt HK.out
      have HQ := Lib.hid hq
      have HS := Lib.hid hs
      have HM := Lib.hid hm
      have HA := Lib.hid hadj2
      have HK0 := Lib.hid hk0
      have HB0 := Lib.hid hb0
      have HOL := Lib.hid hol
      clear hq hs hm hadj2 hk0 hb0 hol
      go_wp2
      go_loopg [7] n (fun f v wr => ∃ (all : List Int) (k : Nat) (O : List Nat), f + k = n ∧ Bfs adj n src all k ∧ Hid (bfsGo adj f all k = bfsF adj n src) ∧ QueueAt wr (w.heap.size + 1) v (I (all.drop k)) ∧ SeenAt wr w.heap.size n all ∧ K (all.take k) O wr ∧ (∀ o ∈ O, o ∈ O0 ∨ w.heap.size + 1 ≤ o) ∧ (∀ g, v.ownBlock = some g → g ∉ O) ∧ Moves O0 w wr ∧ w.heap.size + 1 ≤ wr.heap.size)
      case atStart => exact ⟨pushAll [] src, 0, O0, by omega, HB0.out, Lib.hid rfl, HQ.out, HS.out, HK0.out, fun o ho => .inl ho, fun g e ho => by have := (HQ.out.lt g e).1; have := HOL.out g ho; omega, HM.out.mono (by simp), hsz⟩
      case round =>
        obtain ⟨all, k, O, hfk, hbfs, hgo, hq, hs, hK, hO, hne, hm, hsz⟩ := hrel
        have hlen := hbfs.len
        by_cases hlt : k < all.length
        · have hkn : k < n := by omega
          obtain ⟨f, rfl⟩ : ∃ f, gk = f + 1 := ⟨gk - 1, by omega⟩
          have hxr := hbfs.rng _ (List.getElem_mem hlt)
          have hdr : all.drop k = all[k] :: all.drop (k + 1) := List.drop_eq_getElem_cons hlt
          have hnxb := hbfs.next hlt HA.out
          have hgo2 : bfsGo adj f (pushAll all (adj all[k])) (k + 1) = bfsF adj n src := by
            have := hgo.out
            unfold bfsGo at this
            rw [if_pos hlt, List.getD_eq_getElem?_getD, List.getElem?_eq_getElem hlt] at this
            exact this
          have htk : all.take (k + 1) = all.take k ++ [all[k]] := List.take_succ_eq_append_getElem hlt
          obtain ⟨x, hx⟩ : ∃ x : Nat, (x : Int) = all[k] := ⟨all[k].toNat, by omega⟩
          rw [← hx] at hxr hdr hnxb hgo2 htk
          have hxn : x < n := by omega
          rw [HADJ.out x hxn] at hnxb hgo2
          obtain ⟨l, hl⟩ : ∃ l, l = ls x := ⟨_, rfl⟩
          have hlr := HLS.out x hxn
          have hl16 := HLL.out x hxn
          rw [← hl] at hnxb hgo2 hlr hl16
          rw [hdr] at hq
          obtain ⟨g, off, cap, rfl, hcap, hrl2, hc0, hgb, hgl, hq2⟩ := QueueAt.cut (x := .int .i64 (x : Int)) (xs := I (all.drop (k + 1))) hq
          have hx0 : (0 : Int) ≤ (x : Int) := by omega
          have hx1 : (x : Int) < (n : Int) := by omega
          have hstep := HF.out.step _ O x wr hK (by rw [List.length_take]; omega) hxn
          rw [← htk] at hstep
          have HSTEP := Lib.hid hstep
          have HNB := Lib.hid hnxb
          have HGO2 := Lib.hid hgo2
          have HLR := Lib.hid hlr
          have HQ := Lib.hid hq
          have HQ2 := Lib.hid hq2
          have HS := Lib.hid hs
          have HM := Lib.hid hm
          have HOO := Lib.hid hO
          have HNE := Lib.hid (hne g rfl)
          have HLL2 := Lib.hid hl
          have HBF := Lib.hid hbfs
          clear hx hdr hstep hnxb hgo2 hlr hq hq2 hs hK hO hne hm htk hl hgo hbfs
          have hcases : (cap = 0 ∧ Hid (QueueAt wr (w.heap.size + 1) (.slice (some ⟨g, off, none⟩) (I (all.drop (k + 1))).length cap) (I (all.drop (k + 1))))) ∨ (¬ cap + 1 = 1 ∧ Hid (QueueAt wr (w.heap.size + 1) (.slice (some ⟨g, off + 1, none⟩) (I (all.drop (k + 1))).length cap) (I (all.drop (k + 1))))) := by
            by_cases hcp : cap = 0
            · left; have := HQ2.out; rw [if_pos hcp] at this; exact ⟨hcp, this⟩
            · right; have := HQ2.out; rw [if_neg hcp] at this; exact ⟨by omega, this⟩
          clear HQ2
          obtain ⟨lb2, ld2, hlb2, hlo2, hlbw, hnx3⟩ := HL.out
          cases hlb2
          obtain ⟨Y, dY, hcY, hrY, hYlo⟩ := hnx3 x hxn
          rw [← HLL2.out] at hcY hrY
          have hlbO : lb ∉ O0 := fun h => by have := HO.out lb h; omega
          have hYO : ∀ b o, Y = some ⟨b, o, none⟩ → b ∉ O0 := fun b o e h => by have := HO.out b h; have := hYlo b o e; omega
          have HRY := Lib.hid hrY
          have HYO := Lib.hid hYO
          have HCY := Lib.hid hcY
          have HLBO := Lib.hid hlbO
          have HLBW := Lib.hid hlbw
          clear hnx3 hrY hYlo hcY hlbO hYO hlo2 hlbw
          rcases hcases with ⟨hcp, HQ2⟩ | ⟨hcp, HQ2⟩
          all_goals
            have hcall := HF.out.call
            (try subst hcp)
            go_wp2_with fail
            refine HSTEP.out.mono ?_
            rintro e w2 ⟨rfl, O2, hK2, hm2, hO2⟩
            have hmv2 : Moves O0 w w2 := HM.out.onto hm2 (fun o ho => (HOO.out o ho).imp id (by omega))
            have hq3 := HQ2.out.moves hm2 (fun g' e => by cases e; exact HNE.out)
            have hsb : w.heap.size ∉ O := fun ho => (HOO.out _ ho).elim (fun h => by have := HOL.out _ h; omega) (by omega)
            have hs3 := HS.out.moves hm2 hsb
            have hcY2 := (hmv2.cell HLBW.out HLBO.out x).trans HCY.out
            have hsz2 : w.heap.size + 1 ≤ w2.heap.size := Nat.le_trans hsz hm2.2.2.2.1
            have hsb2 : w.heap.size ∉ O2 := fun ho => (hO2 _ ho).elim hsb (by omega)
            have hgO2 : g ∉ O2 := fun ho => (hO2 _ ho).elim HNE.out (by omega)
            have hO2b : ∀ o ∈ O2, o ∈ O0 ∨ w.heap.size + 1 ≤ o := fun o ho => (hO2 o ho).elim (HOO.out o) (fun h => .inr (by omega))
            have hO2l := HF.out.lt hK2
            rw [List.length_map, List.length_drop] at hq3
            have HK2 := Lib.hid hK2
            have HMV2 := Lib.hid hmv2
            have HQ3 := Lib.hid hq3
            have HS3 := Lib.hid hs3
            have HSB2 := Lib.hid hsb2
            have HGO2' := Lib.hid hgO2
            have HO2B := Lib.hid hO2b
            have HO2L := Lib.hid hO2l
            clear hK2 hm2 hO2 hmv2 hq3 hsb hs3 hsb2 hgO2 hO2b hcall hO2l
            go_wp2
            obtain ⟨wq, rfl⟩ : ∃ wq : World, wq = wr := ⟨_, rfl⟩
            go_loopw [7, 51] (fun v i wr => ∃ m : Nat, i = .int .i64 m ∧ m ≤ l.length ∧ QueueAt wr (w.heap.size + 1) v (I ((pushAll all (l.take m)).drop (k + 1))) ∧ SeenAt wr w.heap.size n (pushAll all (l.take m)) ∧ (∀ g, v.ownBlock = some g → g ∉ O2) ∧ Stays O2 w2 wr ∧ Moves O0 w wr) (fun _ i _ => l.length - (intOf i).toNat)
            case atStart => exact ⟨0, rfl, Nat.zero_le _, HQ3.out, HS3.out, fun g' e => by cases e; exact HGO2'.out, Stays.refl _ _, HMV2.out⟩
            case round =>
              obtain ⟨m, rfl, hm, hq, hs, hne, hst, hmv⟩ := hrel
              obtain ⟨t, ht⟩ := pushAll_pre all (l.take m)
              have hkl : k + 1 ≤ (pushAll all (l.take m)).length := by rw [ht, List.length_append]; omega
              have HT := Lib.hid ht
              clear ht
              by_cases hlm : m < l.length
              · have hm0 : (0 : Int) ≤ (m : Int) := by omega
                have hm1 : (m : Int) < (l.length : Int) := by omega
                obtain ⟨bY, oY, rfl, hcj⟩ := (HRY.out.moves hmv HYO.out).int hlm
                have hyr := HLR.out _ (List.getElem_mem hlm)
                obtain ⟨y, hy⟩ : ∃ y : Nat, (y : Int) = l[m] := ⟨l[m].toNat, by omega⟩
                have hps : pushAll all (l.take (m + 1)) = if (y : Int) ∈ pushAll all (l.take m) then pushAll all (l.take m) else pushAll all (l.take m) ++ [(y : Int)] := by
                  rw [List.take_succ_eq_append_getElem hlm, pushAll_snoc, hy]
                rw [← hy] at hcj hyr
                have hyn : y < n := by omega
                have hy0 : (0 : Int) ≤ (y : Int) := by omega
                have hy1 : (y : Int) < (n : Int) := by omega
                have hcs := hs.2.1 y hyn
                have hfs := hs.2.2 y
                have hnl : (pushAll all (l.take m)).length ≤ 4096 := by
                  have h2 : ∀ z ∈ pushAll all (l.take m), 0 ≤ z ∧ z < (n : Int) := fun z hz => by
                    rcases mem_pushAll.1 hz with hz | hz
                    · exact HBF.out.rng z hz
                    · exact HLR.out z (List.mem_of_mem_take hz)
                  have := nodup_len n _ (pushAll_nodup HBF.out.nod) h2
                  omega
                obtain ⟨A, hA⟩ : ∃ A, A = pushAll all (l.take m) := ⟨_, rfl⟩
                rw [← hA] at hps hq hs hcs hkl hnl
                have HPS := Lib.hid hps
                have HQ := Lib.hid hq
                have HS := Lib.hid hs
                have HMV := Lib.hid hmv
                have HST := Lib.hid hst
                have HNE' := Lib.hid hne
                have hszr : w2.heap.size ≤ wr.heap.size := hst.2.2.2.1
                clear hy hps hq hs hmv hst hne hA
                by_cases hin : (y : Int) ∈ A
                · have hd : decide ((y : Int) ∈ A) = true := by simpa using hin
                  rw [hd] at hcs
                  have HIN := Lib.hid hin
                  clear hin hd
                  go_wp2
                  go_roundw
                  case rel => exact ⟨m + 1, by go_num, by omega, by rw [HPS.out, if_pos HIN.out]; exact HQ.out, by rw [HPS.out, if_pos HIN.out]; exact HS.out, HNE'.out, HST.out, HMV.out⟩
                  case measure => simp [intOf]; omega
                · have hd : decide ((y : Int) ∈ A) = false := by simpa using hin
                  rw [hd] at hcs
                  have HIN := Lib.hid hin
                  clear hin hd
                  have hqs := HQ.out.moves (Moves.set (M := [w.heap.size]) wr ⟨w.heap.size, y, none⟩ (.bool true) (by simp)) (fun g e => by have := (HQ.out.lt g e).1; simp; omega)
                  have hil : (I (A.drop (k + 1))).length ≤ 4096 := by rw [List.length_map, List.length_drop]; omega
                  have hdA : (A ++ [(y : Int)]).drop (k + 1) = A.drop (k + 1) ++ [(y : Int)] := List.drop_append_of_le_length hkl
                  have HQS := Lib.hid hqs
                  have HIL := Lib.hid hil
                  have HDA := Lib.hid hdA
                  clear hqs hil hdA
                  go_wp2_with (at_builtin; refine app_queue (w.heap.size + 1) (by rfl) _ _ 25 3 (.int .i64 0) 8 (by rfl) Try.underlying25 info_int rfl _ (I (A.drop (k + 1))) (.int .i64 (y : Int)) (by rfl) _ (by rfl) (by simp [World.setCell]) rfl HQS.out (by simp [World.setCell]; omega) (by have := HIL.out; omega) (by have := HIL.out; omega) ?_; intro v6 w6 hq6 hg6 hb6 hs6)
                  have hst6 := seen_step HS.out HQ.out hyn hq6 hg6
                  have hnew := new_blocks (M := O0) HQ.out (Nat.le_refl w.heap.size)
                  have hne6 : ∀ g, v6.ownBlock = some g → g ∉ O2 := fun g' e ho => by
                    rcases hb6 g' e with h | h
                    · exact HNE'.out g' h ho
                    · have := HO2L.out g' ho; simp [World.setCell] at h; omega
                  have hstay : Stays O2 wr w6 := Stays.of_moves hst6.2.2 (fun k' hk' => by
                    rcases List.mem_cons.1 hk' with rfl | hk'
                    · exact HSB2.out
                    · exact HNE'.out k' (by simpa using hk'))
                  have HST6 := Lib.hid hst6
                  have HNEW := Lib.hid hnew
                  have HNE6 := Lib.hid hne6
                  have HSTAY := Lib.hid hstay
                  clear hst6 hq6 hg6 hb6 hnew hne6 hstay
                  go_roundw
                  case rel => exact ⟨m + 1, by go_num, by omega, by rw [HPS.out, if_neg HIN.out, HDA.out]; exact HST6.out.1, by rw [HPS.out, if_neg HIN.out]; exact HST6.out.2.1, HNE6.out, HST.out.trans HSTAY.out, HMV.out.onto HST6.out.2.2 HNEW.out⟩
                  case measure => simp [intOf]; omega
              · have hge2 : ¬ (m : Int) < (l.length : Int) := by omega
                have hml : l.take m = l := List.take_of_length_le (by omega)
                rw [hml] at hq hs hkl
                have hK3 : K ((pushAll all l).take (k + 1)) O2 wr := by
                  have e : (pushAll all l).take (k + 1) = all.take (k + 1) := by
                    have := HT.out
                    rw [hml] at this
                    rw [this, List.take_append_of_le_length (by omega)]
                  rw [e]
                  exact HF.out.frame HK2.out hst
                have HQ := Lib.hid hq
                have HS := Lib.hid hs
                have HMV := Lib.hid hmv
                have HNE' := Lib.hid hne
                have HK3 := Lib.hid hK3
                have hszr : w.heap.size + 1 ≤ wr.heap.size := by have := hst.2.2.2.1; omega
                clear hq hs hmv hst hne hK3 hml
                go_wp2
                go_roundg f
                case measure => omega
                case rel => exact ⟨pushAll all l, k + 1, O2, by omega, HNB.out, HGO2, HQ.out, HS.out, HK3.out, HO2B.out, HNE'.out, HMV.out, hszr⟩
        · have hkl : k = all.length := by have := hbfs.kle; omega
          obtain ⟨X9, c9, hf9⟩ := hq.form
          subst hf9
          have hres : bfsF adj n src = all := by have := hgo.out; rw [hkl, bfsGo_done] at this; exact this.symm
          rw [hkl, List.take_length] at hK
          have hln : (I (all.drop k)).length = 0 := by rw [hkl]; simp
          rw [hln]
          have HRES := Lib.hid hres
          have HK9 := Lib.hid hK
          have HM9 := Lib.hid hm
          clear hres hK hm hq hs hne hgo hbfs hln
          go_wp2
          go_end0
          exact ⟨rfl, O, by rw [HRES.out]; exact HK9.out, HM9.out⟩
end Go.Proofs.Ytpdfcffeinbcaaa
