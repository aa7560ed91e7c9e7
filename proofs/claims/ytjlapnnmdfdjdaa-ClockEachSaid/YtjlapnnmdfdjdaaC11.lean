/- A clock in memory: its timers copied, sorted, looked through. -/
import Derived.Test.YtjlapnnmdfdjdaaS2
import Derived.Test.YtjlapnnmdfdjdaaV22
import Derived.Test.YtjlapnnmdfdjdaaC10
namespace Go.Proofs.Ytjlapnnmdfdjdaa
open Go.RowKit Go.Shelf Go.Lib Go.Sort
def tmC (t : Tm) : List Value := [.int .i64 t.n, .int .i64 t.a, .int .i64 t.e]
theorem tmC_cells (L : List Tm) : tmCells L = L.flatMap tmC := rfl
theorem tm_one (t : Tm) : ∀ u ∈ tmC t, u.oneCell' = true := by simp [tmC, Value.oneCell']
theorem before_g {x y : Tm} (hx : Fine x) (hy : Fine y) (w : World) : Calls Try.prog 31 #[x.val, y.val] w fun e w' => e = .returned (.int .i64 (befF x y)) ∧ ∃ q os, w' = grow (w.drewN q) os := by
  obtain ⟨⟨a0, a1⟩, n0, n1⟩ := hx
  obtain ⟨⟨b0, b1⟩, m0, m1⟩ := hy
  obtain ⟨xn, xa, xe⟩ := x
  obtain ⟨yn, ya, ye⟩ := y
  simp only at a0 a1 n0 n1 b0 b1 m0 m1
  unfold Tm.val befF
  simp only
  by_cases h : xa = ya
  · have hb : (xa != ya) = false := by simp [h]
    rw [if_pos h]
    clear h
    go_enter Try.func31, Try.ntmps31
    go_wp2
    go_ret
    exact ⟨rfl, 0, _, by rw [alloc_eq_grow, alloc_eq_grow, grow_grow]; rfl⟩
  · have hb : (xa != ya) = true := by simpa using h
    rw [if_neg h]
    clear h
    go_enter Try.func31, Try.ntmps31
    go_wp2
    go_ret
    exact ⟨rfl, 0, _, by rw [alloc_eq_grow, alloc_eq_grow, grow_grow]; rfl⟩
theorem bef_ok (H : List Tm) : CmpOk H.length (fun i j => befF H[i]! H[j]!) := by
  refine ⟨fun i _ => ?_, fun i j k _ _ _ => ?_, fun i j k _ _ _ => ?_⟩
  · unfold befF; rw [if_pos rfl]; omega
  · have h1 := befF_lt H[i]! H[j]!
    have h2 := befF_lt H[j]! H[k]!
    have h3 := befF_lt H[i]! H[k]!
    intro a b
    rw [decide_eq_true a] at h1
    rw [decide_eq_true b] at h2
    have := Tm.lt_tr h1.symm h2.symm
    rw [this] at h3
    exact of_decide_eq_true h3
  · have h1 := befF_lt H[i]! H[j]!
    have h2 := befF_lt H[j]! H[k]!
    have h3 := befF_lt H[i]! H[k]!
    intro a b
    rw [decide_eq_false a] at h1
    rw [decide_eq_false b] at h2
    have e1 := Tm.lt_no.1 h1.symm
    have e2 := Tm.lt_no.1 h2.symm
    have : H[i]!.lt H[k]! = false := Tm.lt_no.2 (by omega)
    rw [this] at h3
    exact of_decide_eq_false h3
theorem range_flat (H : List Tm) : (List.range H.length).flatMap (fun i => tmC H[i]!) = tmCells H := by
  have : (List.range H.length).map (fun i => H[i]!) = H := by
    apply List.ext_getElem (by simp)
    intro i h1 h2
    simp [show i < H.length from h2]
  conv => rhs; rw [← this]
  rw [tmC_cells, List.flatMap_map]
set_option maxRecDepth 100000 in
/-- The row of a clock's timers, sorted. -/
theorem tsort_c {B : Nat} {w : World} {v : Value} {H L : List Tm} (ho : w.ownsRow B 39 3 v H.length (tmCells H)) (hf : ∀ t ∈ H, Fine t) (hp : H.Perm L) (hs : Sor L) (hn : (L.map (·.n)).Nodup) (hl : H.length ≤ 1099511627776) :
    Calls Try.prog 30 #[v, .func (.func 31) #[] #[]] w fun e w' => e = .returned (.tuple #[]) ∧ w'.ownsRow B 39 3 v L.length (tmCells L) ∧ w.grownBy w' v.ownBlock := by
  have hle := hp.length_eq
  obtain ⟨X, cap, rfl, _⟩ := own_rowS ho
  have hlim : Lib.bitLen H.length < 4611686018427387904 := Nat.lt_of_le_of_lt (Lib.bitLen_le H.length 62 (by omega) (by omega)) (by omega)
  have hpdq := pdq_own (P := Try.prog) Try.laysSlF014_f45 (k := 3) (by omega) Try.isAgg39 Try.sizeOf39 (w := w) (B := B) (n := H.length) (e := 39) (v := .slice X H.length cap) (el := fun i => tmC H[i]!) (fun _ _ => rfl) (fun _ _ => tm_one _) (by rw [range_flat]; exact ho) 31 (enters_of Try.func31 (by kernel_rfl) rfl) (bef_ok H) (by omega)
    (fun i j hi hj w' _ => before_g (hf _ (by rw [getElem!_pos H i hi]; exact List.getElem_mem hi)) (hf _ (by rw [getElem!_pos H j hj]; exact List.getElem_mem hj)) w') (Lib.bitLen H.length) hlim
  have hbl : Calls Try.prog 46 #[.int .u64 (H.length : Int)] w fun e w' => e = .returned (.int .i64 (Lib.bitLen H.length : Nat)) ∧ w' = w := by
    have h := Try.bits_Len (H.length : Int) w (by omega) (by omega)
    rwa [Int.toNat_natCast] at h
  have wr : IntKind.u64.wrap (H.length : Int) = H.length := by simp [IntKind.wrap, IntKind.bits, IntKind.signed]; omega
  have fin : ∀ w', (∃ ps : List Nat, ps.Perm (List.range H.length) ∧ (ps.Pairwise fun i j => ¬ befF H[j]! H[i]! < 0) ∧ w'.ownsRow B 39 3 (.slice X H.length cap) H.length (ps.flatMap fun i => tmC H[i]!) ∧ w.grownBy w' (Value.slice X H.length cap).ownBlock) →
      w'.ownsRow B 39 3 (.slice X H.length cap) L.length (tmCells L) ∧ w.grownBy w' (Value.slice X H.length cap).ownBlock := by
    rintro w' ⟨ps, h1, h2, h3, h4⟩
    have e1 : (ps.map fun i => H[i]!) = L := by
      refine sor_uniq ?_ hs ?_
      · unfold Sor
        rw [List.pairwise_map]
        have hnd : ((ps.map fun i => H[i]!).map (·.n)).Nodup := by
          have h5 : ((List.range H.length).map fun i => H[i]!) = H := by
            apply List.ext_getElem (by simp)
            intro i h1 h2
            simp [show i < H.length from h2]
          have h6 := (h1.map (fun i => H[i]!))
          rw [h5] at h6
          exact (((h6.trans hp).map (·.n)).nodup_iff).2 hn
        rw [List.map_map] at hnd
        have hnd2 := List.pairwise_map.1 hnd
        refine (h2.and hnd2).imp ?_
        rintro i j ⟨a, b⟩
        have h3 := befF_lt H[j]! H[i]!
        rw [decide_eq_false a] at h3
        have e1 := Tm.lt_no.1 h3.symm
        simp only [Function.comp] at b
        exact Tm.lt_iff.2 (by omega)
      · have h5 : ((List.range H.length).map fun i => H[i]!) = H := by
          apply List.ext_getElem (by simp)
          intro i h1 h2
          simp [show i < H.length from h2]
        have h6 := (h1.map (fun i => H[i]!))
        rw [h5] at h6
        exact h6.trans hp
    have e2 : (ps.flatMap fun i => tmC H[i]!) = tmCells L := by rw [← e1, tmC_cells, List.flatMap_map]
    rw [e2] at h3
    rw [← hle]
    exact ⟨h3, h4⟩
  have HP := Lib.hid hpdq
  have HB := Lib.hid hbl
  have FIN := Lib.hid fin
  have hl2 : H.length ≤ 1099511627776 := hl
  clear hpdq hbl fin ho hf hp hs hn hle hlim
  go_enter Try.func30, Try.ntmps30
  go_wp2_with (first | (go_at_call 46; refine HB.out.mono ?_; rintro e w' ⟨rfl, rfl⟩) | (go_at_call 45; refine HP.out.mono ?_; rintro e w1 ⟨rfl, hr⟩))
  go_end0
  exact ⟨rfl, FIN.out _ hr⟩
set_option maxRecDepth 100000 in
/-- A copy of the timers. -/
theorem tclone_c {B : Nat} {w : World} {v : Value} {H : List Tm} (ho : w.ownsRow B 39 3 v H.length (tmCells H)) (hl : H.length ≤ 1024) :
    Calls Try.prog 26 #[v] w fun e w' => ∃ v', e = .returned v' ∧ w'.ownsRow w.heap.size 39 3 v' H.length (tmCells H) ∧ Below w.heap.size w w' := by
  obtain ⟨X, cap, rfl, _⟩ := own_rowS ho
  cases X with
  | none =>
    have h0 : H.length = 0 ∧ cap = 0 := by
      rcases ho with ⟨_, ⟨hv, h0⟩ | ⟨g, _, _, hv, _⟩⟩
      · injection hv with _ _ hv; exact ⟨h0, hv⟩
      · injection hv with hv; cases hv
    obtain ⟨h0, rfl⟩ := h0
    obtain rfl : H = [] := List.eq_nil_of_length_eq_zero h0
    clear ho h0
    simp only [List.length_nil]
    have hbe : ∀ w, (binOp .eql 58 (.slice none 0 0) (.slice none 0 0)).run Try.prog w = .ok (.bool true) w := fun w => by kernel_rfl
    go_enter Try.func26, Try.ntmps26
    go_wp2
    go_ret
    exact ⟨_, rfl, own_none _ _ _ _, Below.refl _ _⟩
  | some ad =>
    have hr := Reads.of_own ho
    obtain ⟨i0, hi, hzz⟩ := Option.map_eq_some_iff.1 info_tm
    simp only [Prod.mk.injEq] at hzz
    have h1 : ∀ u ∈ tmCells H, u.oneCell' = true := fun u hu => by
      rw [tmC_cells] at hu
      obtain ⟨t, _, hu⟩ := List.mem_flatMap.1 hu
      exact tm_one t u hu
    have fin : ∀ v' w', w'.ownsRow w.heap.size 39 3 v' (0 + H.length) ([] ++ tmCells H) → (w.alloc (.cells #[] 39)).grownBy w' (Value.slice (some ⟨w.heap.size, 0, none⟩) 0 0).ownBlock → w'.ownsRow w.heap.size 39 3 v' H.length (tmCells H) ∧ Below w.heap.size w w' := fun v' w' h1 h2 => by
      rw [Nat.zero_add, List.nil_append] at h1
      refine ⟨h1, ?_⟩
      have hb : Below w.heap.size w (w.alloc (.cells #[] 39)) := (Below.refl _ _).alloc (Nat.le_refl _) _
      exact hb.grown h2 (by rw [al_size]; omega) (fun k hk => by cases hk; exact Nat.le_refl _)
    have HR := Lib.hid hr
    have HI := Lib.hid hi
    have HZ := Lib.hid hzz
    have H1 := Lib.hid h1
    have FIN := Lib.hid fin
    have hbe : ∀ w, (binOp .eql 58 (.slice (some ad) H.length cap) (.slice none 0 0)).run Try.prog w = .ok (.bool false) w := fun w => by kernel_rfl
    clear hr hi hzz h1 fin ho
    go_enter Try.func26, Try.ntmps26
    go_wp2_with (at_builtin; refine wpList_append_any _ (by rfl) _ _ 58 (by rfl) w.heap.size 39 i0 (.agg #[.int .i64 0, .int .i64 0, .int .i64 0]) 3 24 Try.underlying58 HI.out HZ.out.1 HZ.out.2.1 HZ.out.2.2 rfl (by decide) _ 0 [] (by rfl) (own_void w 39 3) w.heap.size (some ad) H.length cap (tmCells H) (by rfl) (HR.out.alloc (Nat.le_refl _) _) H1.out (by simp only [maxLen]; omega) (by omega) (by rw [al_size]; omega) ?_; intro v5 w5 hown5 hg5 hat5; have hf5 := FIN.out v5 w5 hown5 hg5; clear hown5 hg5 hat5)
    go_ret
    exact ⟨v5, rfl, hf5⟩
end Go.Proofs.Ytjlapnnmdfdjdaa
