/- The reference: Valid, write. -/
import Derived.Test.YtbkicepkkcambaaJouU
import Derived.Test.YtbkicepkkcambaaJouR1
namespace Go.Proofs.Ytbkicepkkcambaa
open Go.RowKit BigFrame Go.Shelf
set_option linter.unusedVariables false
set_option linter.unusedSimpArgs false

set_option maxRecDepth 100000 in
set_option maxHeartbeats 1000000 in
theorem refvalid_any (A : Option Addr) (n c : Nat) (p : Int) (d : Bytes) (w : World) (h : Bys w w.heap.size A n d) (hn : n ≤ 100000000000) :
    Calls Try.prog 31 #[.agg #[.slice A n c, .int .i64 p]] w fun e w' => e = .returned (.bool (stoOk ⟨d, p⟩)) ∧ Below w.heap.size w w' := by
  have hl := h.len
  have hv : stoOk ⟨d, p⟩ = (decide (n ≤ 1048576) && decide (-1 ≤ p)) := by unfold stoOk; rw [hl, Bool.decide_and]
  have HV := Lib.hid hv
  clear hv hl h
  by_cases h1 : n ≤ 1048576
  · have i1 : (n : Int) ≤ 1048576 := by omega
    go_enter Try.func31, Try.ntmps31
    go_wp2_with fail
    go_ret
    exact ⟨by rw [HV.out]; simp [h1], (Below.refl _ _).alloc (Nat.le_refl _) _⟩
  · have i1 : ¬ (n : Int) ≤ 1048576 := by omega
    go_enter Try.func31, Try.ntmps31
    go_wp2_with fail
    go_ret
    exact ⟨by rw [HV.out]; simp [h1], (Below.refl _ _).alloc (Nat.le_refl _) _⟩

/-- An append onto a literal of no elements: what lay before is as it was. -/
theorem lit_block {W w1 : World} {e : TypeId} {b : Nat} (hg : (W.alloc (.cells #[] e)).grownBy w1 (Value.slice (some ⟨W.heap.size, 0, none⟩) 0 0).ownBlock) (hb : b < W.heap.size) : w1.heap[b]? = W.heap[b]? := by
  refine (hg.block b (by simp; omega) ?_).trans (Below.heap_alloc _ _ _ hb)
  intro e'
  simp only [Value.ownBlock, Option.some.injEq] at e'
  omega
theorem lit_below {B : Nat} {w W w1 : World} {e : TypeId} (hg : (W.alloc (.cells #[] e)).grownBy w1 (Value.slice (some ⟨W.heap.size, 0, none⟩) 0 0).ownBlock) (h : Below B w W) (hB : B ≤ W.heap.size) : Below B w w1 :=
  Below.grown (h.alloc hB _) hg (by simp; omega) fun k hk => by
    simp only [Value.ownBlock, Option.some.injEq] at hk
    omega
/-- What write has when j bytes were written. -/
def WrAt (w wr : World) (p : Int) (n : Nat) (d x : Bytes) (j : Nat) : Prop :=
  ∃ A c, wr.heap[w.heap.size]? = some (.cells #[.slice A (n + j) c, .int .i64 (powAt p j)] 30 (0, 0)) ∧ wr.heap[w.heap.size + 1]? = some (.cells #[.slice none 0 0, .int .i64 0] 30 (0, 0)) ∧ wr.ownsRow w.heap.size 5 1 (.slice A (n + j) c) (n + j) (bys (d ++ x.take j)) ∧ Below w.heap.size w wr
/-- A store is handed back. -/
theorem end_ref {w w3 : World} {m c b : Nat} {A : Option Addr} {l : Bytes} {p er : Int} {cs : Array Value} (h : w3.ownsRow w.heap.size 5 1 (.slice A m c) m (bys l)) (hB : Below w.heap.size w w3) (hl : l.length = m) (hr : w3.heap[b]? = some (.cells cs 30 (0, 0))) (hb : w.heap.size ≤ b) (u1 u2 : Value) :
    GivesSto w (⟨l, p⟩, er) (.returned (.tuple #[.agg #[.slice A m c, .int .i64 p], .int .i64 er])) ((w3.setCell ⟨b, 0, none⟩ u1).setCell ⟨b, 1, none⟩ u2) := by
  subst hl
  have hne : ∀ k, (Value.slice A l.length c).ownBlock = some k → k ≠ b := fun k hk e => row_ne hr h (by decide) (hk.trans (congrArg some e))
  exact ⟨A, c, rfl, own_set (own_set h hne _) hne _, (hB.setCell hb _).setCell hb _⟩
set_option maxRecDepth 100000 in
set_option maxHeartbeats 2000000 in
theorem refwrite_any (A A1 : Option Addr) (n c n1 c1 : Nat) (p : Int) (d x : Bytes) (w : World) (h : Bys w w.heap.size A n d) (hx : Bys w w.heap.size A1 n1 x) (hn : n ≤ 10000000000) (hn1 : n1 ≤ 10000000000) (hp : p ≤ 9223372036854775807) (hp0 : -1 ≤ p) :
    Calls Try.prog 37 #[.agg #[.slice A n c, .int .i64 p], .slice A1 n1 c1] w (GivesSto w (wrote ⟨d, p⟩ x, wroteE ⟨d, p⟩ x)) := by
  have HH := Lib.hid h
  have HX := Lib.hid hx
  have HLEN := Lib.hid (And.intro h.len hx.len)
  clear h hx
  go_enter Try.func37, Try.ntmps37
  go_upto_region 1 with (fail)
  generalize hw2 : World.alloc (World.alloc w _) _ = w2
  have hb2 : Below w.heap.size w w2 := by rw [← hw2]; go_grown
  have q0 : w2.heap[w.heap.size]? = some (.cells #[.slice A n c, .int .i64 p] 30 (0, 0)) := by rw [← hw2]; (try rw [get_drew]); simp only [get_alloc, get_set, World.size_alloc, World.size_setCell]; simp [Nat.add_assoc]
  have q1 : w2.heap[w.heap.size + 1]? = some (.cells #[.slice none 0 0, .int .i64 0] 30 (0, 0)) := by rw [← hw2]; (try rw [get_drew]); simp only [get_alloc, get_set, World.size_alloc, World.size_setCell]; simp [Nat.add_assoc]
  have hs2 := hb2.size
  have HB2 := Lib.hid hb2
  have Q0 := Lib.hid q0
  have Q1 := Lib.hid q1
  have e0 := cell_of_row _ _ 0 _ _ _ q0
  have l0 := row_lt q0
  have l1 := row_lt q1
  clear hw2 hb2 q0 q1
  go_wp2_with (at_builtin; (refine elemByte.list_append rfl (.tmp 7) (.tmp 9) rfl rfl (World.ownsRow_lit (base := w.heap.size) (e := 5) (size := 1) w2 #[] 0 hs2 (by unfold maxLen; omega) rfl) rfl (((HH.out.to HB2.out).to (by go_grown)).reads) (bys_one d) (by unfold maxLen; omega) (by omega) (by simp; omega) ?_; intro v1 w1 hown hg hat; simp only [Nat.zero_add, List.nil_append] at hown; obtain ⟨A5, c5, hv1, _⟩ := own_shape hown; subst hv1; clear hat; have r0 : w1.heap[w.heap.size]? = some (.cells #[.slice A n c, .int .i64 p] 30 (0, 0)) := (lit_block hg l0).trans Q0.out; have r1 : w1.heap[w.heap.size + 1]? = some (.cells #[.slice none 0 0, .int .i64 0] 30 (0, 0)) := (lit_block hg l1).trans Q1.out; have hb1 : Below w.heap.size w w1 := lit_below hg HB2.out hs2; have e0 := cell_of_row _ _ 0 _ _ _ r0; have f0 := frozen_of_row _ _ 0 _ _ r0; have l0 := row_lt r0; have R0 := Lib.hid r0; have R1 := Lib.hid r1; have HO := Lib.hid hown; have HB1 := Lib.hid hb1; clear r0 r1 hg hown hb1))
  have hst : WrAt w (w1.setCell ⟨w.heap.size, 0, none⟩ (.slice A5 n c5)) p n d x 0 := ⟨A5, c5, by rw [powAt_zero]; exact set_row R0.out _, far_row R1.out (by simp) _, by rw [List.take_zero, List.append_nil]; exact own_set HO.out (fun k hk e => row_ne R0.out HO.out (by decide) (hk.trans (congrArg some e))) _, HB1.out.setCell (by simp) _⟩
  clear e0 f0 l0
  go_loopw [6] (fun i wr => ∃ j : Nat, j ≤ n1 ∧ i = .int .i64 j ∧ (p < 0 ∨ (j : Int) ≤ p) ∧ WrAt w wr p n d x j) (fun i _ => n1 - (intOf i).toNat)
  case atStart => exact ⟨0, Nat.zero_le _, rfl, by omega, hst⟩
  case round =>
    obtain ⟨j, hj, rfl, hok, A2, c2, r0, r1, ho, hb⟩ := hrel
    have HB := Lib.hid hb
    have HO2 := Lib.hid ho
    have RR0 := Lib.hid r0
    have RR1 := Lib.hid r1
    have hpj := fun h => powAt_succ (p := p) (i := j) h hp0 hok
    have hdone := fun (e : j = n1) => wrote_done (d := d) (x := x) (p := p) (by rw [HLEN.out.2, ← e]; exact hok)
    have hstop := fun (e : j < n1) hz => wrote_stop (d := d) (x := x) (p := p) (i := j) (by rw [HLEN.out.2]; exact e) hz hp0 hok
    have hpm : powAt p j ≤ p ∧ -1 ≤ powAt p j := by unfold powAt; split <;> omega
    have e0 := cell_of_row _ _ 0 _ _ _ r0
    have e1 := cell_of_row _ _ 1 _ _ _ r0
    have f0 := frozen_of_row _ _ 0 _ _ r0
    have f1 := frozen_of_row _ _ 1 _ _ r0
    have l0 := row_lt r0
    have d0 := cell_of_row _ _ 0 _ _ _ r1
    have d1 := cell_of_row _ _ 1 _ _ _ r1
    have g0 := frozen_of_row _ _ 0 _ _ r1
    have g1 := frozen_of_row _ _ 1 _ _ r1
    have l1 := row_lt r1
    by_cases hlt : j < n1
    · obtain ⟨y, bb, o, hy, hAe, hbB, cy⟩ := HX.out.at_ (i := j) hlt
      subst hAe
      have CY : Hid (∀ W', Below w.heap.size w W' → W'.cell? ⟨bb, o + j, none⟩ = some (.int .u8 (y.toNat : Int))) := Lib.hid fun W' hW' => (hW'.cell (p := ⟨bb, o + j, none⟩) hbB).trans cy
      have HRN := Lib.hid (show (d ++ x.take j) ++ [y] = d ++ x.take (j + 1) by rw [List.take_add_one, hy]; simp)
      clear hy cy hdone r0 r1 ho hb
      generalize powAt p j = P at *
      by_cases hz : P = 0
      · subst hz
        have HS := Lib.hid (hstop hlt rfl)
        clear hpj hstop
        go_wp2_with fail
        refine bodyPost_ret (v := .tuple #[.agg #[.slice A2 (n + j) c2, .int .i64 0], .int .i64 370]) (by simp [results, Try.results37, go_sem, d0, d1, e0, e1]) rfl ?_
        exact HS.out ▸ end_ref HO2.out HB.out (by rw [List.length_append, HLEN.out.1, List.length_take, HLEN.out.2]; omega) RR1.out (by omega) _ _
      · have i1 : (P == 0) = false := by simpa using hz
        have HNX := Lib.hid (hpj hz).1
        have HPN := Lib.hid (hpj hz).2
        clear hpj hstop hz
        by_cases h1 : 0 < P
        · rw [if_pos h1] at HPN
          go_wp2_with fail
          generalize hwY : World.setCell wr _ _ = wY
          have y0 : wY.heap[w.heap.size]? = some (.cells #[.slice A2 (n + j) c2, .int .i64 (powAt p (j + 1))] 30 (0, 0)) := by rw [← hwY, HPN.out]; exact set_row RR0.out _
          have y1 : wY.heap[w.heap.size + 1]? = some (.cells #[.slice none 0 0, .int .i64 0] 30 (0, 0)) := by rw [← hwY]; exact far_row RR1.out (by simp) _
          clear e0 e1 f0 f1 l0 d0 d1 g0 g1 l1
          have HOY := Lib.hid (show wY.ownsRow w.heap.size 5 1 (.slice A2 (n + j) c2) (n + j) (bys (d ++ x.take j)) from (by rw [← hwY]; exact own_set HO2.out (fun k hk e => row_ne RR0.out HO2.out (by decide) (hk.trans (congrArg some e))) _))
          have HBY := Lib.hid (show Below w.heap.size w wY from (by rw [← hwY]; exact HB.out.setCell (by simp) _))
          have R0 := Lib.hid y0
          have R1 := Lib.hid y1
          have hlY := HBY.out.size
          have e0 := cell_of_row _ _ 0 _ _ _ y0
          have l0 := row_lt y0
          clear y0 y1
          refine wp_region_held_drew (S := fun W' => W'.cell? ⟨bb, o + j, none⟩ = some (.int .u8 (y.toNat : Int))) (by kernel_rfl) (CY.out _ (HBY.out.trans (by go_grown))) (fun hS => ?_)
          refine wpAnyH_take (i := 0) (oi := ⟨some 29, _, _, _, _, _⟩) (v := ?_) rfl (by kernel_rfl) (by kernel_rfl) (by kernel_rfl) (fun _ _ _ h => h) (Or.inl ⟨by rfl, ?_⟩) hS ?_
          rotate_left
          · (intro _ hW; go_simp; try (with_reducible rfl))
          try simp only [Act.put, List.setIfInBounds_toArray, List.set_cons_zero, List.set_cons_succ]
          refine wpAnyH_take (i := 2) (oi := ⟨some 31, _, _, _, _, _⟩) (v := ?_) rfl (by kernel_rfl) (by kernel_rfl) (by kernel_rfl) (fun _ _ _ h => h) (Or.inl ⟨by rfl, ?_⟩) hS ?_
          rotate_left
          · (intro _ hW; go_simp; try (with_reducible rfl))
          try simp only [Act.put, List.setIfInBounds_toArray, List.set_cons_zero, List.set_cons_succ]
          refine wpAnyH_take (i := 3) (oi := ⟨some 32, _, _, _, _, _⟩) (v := ?_) rfl (by kernel_rfl) (by kernel_rfl) (by kernel_rfl) (fun _ _ _ h => h) (Or.inl ⟨by rfl, ?_⟩) hS ?_
          rotate_left
          · (intro _ hW; go_simp; try (with_reducible rfl))
          try simp only [Act.put, List.setIfInBounds_toArray, List.set_cons_zero, List.set_cons_succ]
          refine wpAnyH_take (i := 4) (oi := ⟨some 33, _, _, _, _, _⟩) (v := ?_) rfl (by kernel_rfl) (by kernel_rfl) (by kernel_rfl) (fun _ _ _ h => h) (Or.inl ⟨by rfl, ?_⟩) hS ?_
          rotate_left
          · (intro _ hW; go_simp; try (with_reducible rfl))
          try simp only [Act.put, List.setIfInBounds_toArray, List.set_cons_zero, List.set_cons_succ]
          refine wpAnyH_take (i := 5) (oi := ⟨some 34, _, _, _, _, _⟩) (v := ?_) rfl (by kernel_rfl) (by kernel_rfl) (by kernel_rfl) (fun _ _ _ h => h) (Or.inl ⟨by rfl, ?_⟩) hS ?_
          rotate_left
          · (intro _ hW; go_simp; try (with_reducible rfl))
          try simp only [Act.put, List.setIfInBounds_toArray, List.set_cons_zero, List.set_cons_succ]
          refine wpAnyH_ready (rs := [1, 6]) (by kernel_rfl) (by simp) ?_
          refine AllReadyH.cons rfl (fun K hK => ?_) (AllReadyH.cons rfl (fun K hK => ?_) AllReadyH.nil)
          · go_simp
            refine hK.out _ _ ?_ (fun hS => ?_)
            · exact CY.out _ (by exact HBY.out.trans (by go_grown))
            clear hK K
            try simp only [Act.put, List.setIfInBounds_toArray, List.set_cons_zero, List.set_cons_succ]
            refine wpAnyH_ready (rs := [6]) (by kernel_rfl) (by simp) ?_
            refine AllReadyH.cons rfl (fun K hK => ?_) AllReadyH.nil
            go_simp
            refine hK.out _ _ ?_ (fun hS => ?_)
            · exact CY.out _ (by exact HBY.out.trans (by go_grown))
            clear hK K
            try simp only [Act.put, List.setIfInBounds_toArray, List.set_cons_zero, List.set_cons_succ]
            refine wpAnyH_ready (rs := [7]) (by kernel_rfl) (by simp) ?_
            refine AllReadyH.cons rfl (fun K hK => ?_) AllReadyH.nil
            refine step_lift (by rfl) ?_
            refine elemByte.wp_append (.tmp 30) (.tmp 35) rfl rfl (HOY.out.alloc _) rfl (reads_block (b := wY.heap.size) (n := 1) (B := wY.heap.size + 1) (xs := bys [y]) (by omega) (heap_at rfl) rfl rfl) (bys_one _) (by unfold maxLen; omega) (by omega) (by simp; omega) ?_
            intro v3 w3 ho3 hg3 hat3
            obtain ⟨A3, c3, hv3, _⟩ := own_shape ho3
            subst hv3
            clear hat3
            replace hg3 : (World.alloc wY (.cells #[.int .u8 (y.toNat : Int)] 5)).grownBy w3 (Value.slice A2 (n + j) c2).ownBlock := ⟨hg3.os, hg3.tape, hg3.output, hg3.size, hg3.block⟩
            have r0 := row_kept R0.out HOY.out hg3 (by decide)
            have r1 := row_kept R1.out HOY.out hg3 (by decide)
            have hb3 : Below w.heap.size w w3 := Below.grown (HBY.out.alloc (by have := HBY.out.size; omega) _) hg3 (by have := HBY.out.size; simp; omega) (fun k hk => (HOY.out.lt k hk).1)
            have HB3 := Lib.hid hb3
            refine hK.out _ _ ?_ (fun hS => ?_)
            · exact CY.out _ (by exact HB3.out)
            clear hK K
            try simp only [Act.put, List.setIfInBounds_toArray, List.set_cons_zero, List.set_cons_succ]
            refine wpAnyH_take (i := 8) (oi := ⟨some 37, _, _, _, _, _⟩) (v := ?_) rfl (by kernel_rfl) (by kernel_rfl) (by kernel_rfl) (fun _ _ _ h => h) (Or.inl ⟨by rfl, ?_⟩) hS ?_
            rotate_left
            · (intro _ hW; go_simp; try (with_reducible rfl))
            try simp only [Act.put, List.setIfInBounds_toArray, List.set_cons_zero, List.set_cons_succ]
            have ho4 := HRN.out ▸ bys_append (d ++ x.take j) [y] ▸ ho3
            have e0 := cell_of_row _ _ 0 _ _ _ r0
            have e1 := cell_of_row _ _ 1 _ _ _ r0
            have f0 := frozen_of_row _ _ 0 _ _ r0
            have f1 := frozen_of_row _ _ 1 _ _ r0
            have l0 := row_lt r0
            have d0 := cell_of_row _ _ 0 _ _ _ r1
            have d1 := cell_of_row _ _ 1 _ _ _ r1
            have g0 := frozen_of_row _ _ 0 _ _ r1
            have g1 := frozen_of_row _ _ 1 _ _ r1
            have l1 := row_lt r1
            refine wpAnyH_ready (rs := [9]) (by kernel_rfl) (by simp) ?_
            refine AllReadyH.cons rfl (fun K hK => ?_) AllReadyH.nil
            go_simp
            refine hK.out _ _ ?_ (fun hS => ?_)
            · exact CY.out _ (by exact HB3.out.setCell (by simp) _)
            clear hK K
            try simp only [Act.put, List.setIfInBounds_toArray, List.set_cons_zero, List.set_cons_succ]
            refine wpAnyH_done (by kernel_rfl) ?_ _
            clear hS
            go_wp2_with fail
            go_roundw
            case rel =>
              exact ⟨j + 1, by omega, by go_num, HNX.out, A3, c3, set_row r0 _, far_row r1 (by simp) _, own_set ho4 (fun k hk e => row_ne r0 ho4 (by decide) (hk.trans (congrArg some e))) _, HB3.out.setCell (by simp) _⟩
            case measure => simp [intOf]; omega
          · go_simp
            refine hK.out _ _ ?_ (fun hS => ?_)
            · exact CY.out _ (by exact HBY.out.trans (by go_grown))
            clear hK K
            try simp only [Act.put, List.setIfInBounds_toArray, List.set_cons_zero, List.set_cons_succ]
            refine wpAnyH_ready (rs := [1]) (by kernel_rfl) (by simp) ?_
            refine AllReadyH.cons rfl (fun K hK => ?_) AllReadyH.nil
            go_simp
            refine hK.out _ _ ?_ (fun hS => ?_)
            · exact CY.out _ (by exact HBY.out.trans (by go_grown))
            clear hK K
            try simp only [Act.put, List.setIfInBounds_toArray, List.set_cons_zero, List.set_cons_succ]
            refine wpAnyH_ready (rs := [7]) (by kernel_rfl) (by simp) ?_
            refine AllReadyH.cons rfl (fun K hK => ?_) AllReadyH.nil
            refine step_lift (by rfl) ?_
            refine elemByte.wp_append (.tmp 30) (.tmp 35) rfl rfl (HOY.out.alloc _) rfl (reads_block (b := wY.heap.size) (n := 1) (B := wY.heap.size + 1) (xs := bys [y]) (by omega) (heap_at rfl) rfl rfl) (bys_one _) (by unfold maxLen; omega) (by omega) (by simp; omega) ?_
            intro v3 w3 ho3 hg3 hat3
            obtain ⟨A3, c3, hv3, _⟩ := own_shape ho3
            subst hv3
            clear hat3
            replace hg3 : (World.alloc wY (.cells #[.int .u8 (y.toNat : Int)] 5)).grownBy w3 (Value.slice A2 (n + j) c2).ownBlock := ⟨hg3.os, hg3.tape, hg3.output, hg3.size, hg3.block⟩
            have r0 := row_kept R0.out HOY.out hg3 (by decide)
            have r1 := row_kept R1.out HOY.out hg3 (by decide)
            have hb3 : Below w.heap.size w w3 := Below.grown (HBY.out.alloc (by have := HBY.out.size; omega) _) hg3 (by have := HBY.out.size; simp; omega) (fun k hk => (HOY.out.lt k hk).1)
            have HB3 := Lib.hid hb3
            refine hK.out _ _ ?_ (fun hS => ?_)
            · exact CY.out _ (by exact HB3.out)
            clear hK K
            try simp only [Act.put, List.setIfInBounds_toArray, List.set_cons_zero, List.set_cons_succ]
            refine wpAnyH_take (i := 8) (oi := ⟨some 37, _, _, _, _, _⟩) (v := ?_) rfl (by kernel_rfl) (by kernel_rfl) (by kernel_rfl) (fun _ _ _ h => h) (Or.inl ⟨by rfl, ?_⟩) hS ?_
            rotate_left
            · (intro _ hW; go_simp; try (with_reducible rfl))
            try simp only [Act.put, List.setIfInBounds_toArray, List.set_cons_zero, List.set_cons_succ]
            have ho4 := HRN.out ▸ bys_append (d ++ x.take j) [y] ▸ ho3
            have e0 := cell_of_row _ _ 0 _ _ _ r0
            have e1 := cell_of_row _ _ 1 _ _ _ r0
            have f0 := frozen_of_row _ _ 0 _ _ r0
            have f1 := frozen_of_row _ _ 1 _ _ r0
            have l0 := row_lt r0
            have d0 := cell_of_row _ _ 0 _ _ _ r1
            have d1 := cell_of_row _ _ 1 _ _ _ r1
            have g0 := frozen_of_row _ _ 0 _ _ r1
            have g1 := frozen_of_row _ _ 1 _ _ r1
            have l1 := row_lt r1
            refine wpAnyH_ready (rs := [9]) (by kernel_rfl) (by simp) ?_
            refine AllReadyH.cons rfl (fun K hK => ?_) AllReadyH.nil
            go_simp
            refine hK.out _ _ ?_ (fun hS => ?_)
            · exact CY.out _ (by exact HB3.out.setCell (by simp) _)
            clear hK K
            try simp only [Act.put, List.setIfInBounds_toArray, List.set_cons_zero, List.set_cons_succ]
            refine wpAnyH_done (by kernel_rfl) ?_ _
            clear hS
            go_wp2_with fail
            go_roundw
            case rel =>
              exact ⟨j + 1, by omega, by go_num, HNX.out, A3, c3, set_row r0 _, far_row r1 (by simp) _, own_set ho4 (fun k hk e => row_ne r0 ho4 (by decide) (hk.trans (congrArg some e))) _, HB3.out.setCell (by simp) _⟩
            case measure => simp [intOf]; omega
        · rw [if_neg h1] at HPN
          go_wp2_with fail
          obtain ⟨wY, hwY⟩ : ∃ wY, wr = wY := ⟨_, rfl⟩
          have y0 : wY.heap[w.heap.size]? = some (.cells #[.slice A2 (n + j) c2, .int .i64 (powAt p (j + 1))] 30 (0, 0)) := by rw [← hwY, HPN.out]; exact RR0.out
          have y1 : wY.heap[w.heap.size + 1]? = some (.cells #[.slice none 0 0, .int .i64 0] 30 (0, 0)) := by rw [← hwY]; exact RR1.out
          rw [hwY]
          clear e0 e1 f0 f1 l0 d0 d1 g0 g1 l1
          have HOY := Lib.hid (show wY.ownsRow w.heap.size 5 1 (.slice A2 (n + j) c2) (n + j) (bys (d ++ x.take j)) from (by rw [← hwY]; exact HO2.out))
          have HBY := Lib.hid (show Below w.heap.size w wY from (by rw [← hwY]; exact HB.out))
          have R0 := Lib.hid y0
          have R1 := Lib.hid y1
          have hlY := HBY.out.size
          have e0 := cell_of_row _ _ 0 _ _ _ y0
          have l0 := row_lt y0
          clear y0 y1
          refine wp_region_held_drew (S := fun W' => W'.cell? ⟨bb, o + j, none⟩ = some (.int .u8 (y.toNat : Int))) (by kernel_rfl) (CY.out _ (HBY.out.trans (by go_grown))) (fun hS => ?_)
          refine wpAnyH_take (i := 0) (oi := ⟨some 29, _, _, _, _, _⟩) (v := ?_) rfl (by kernel_rfl) (by kernel_rfl) (by kernel_rfl) (fun _ _ _ h => h) (Or.inl ⟨by rfl, ?_⟩) hS ?_
          rotate_left
          · (intro _ hW; go_simp; try (with_reducible rfl))
          try simp only [Act.put, List.setIfInBounds_toArray, List.set_cons_zero, List.set_cons_succ]
          refine wpAnyH_take (i := 2) (oi := ⟨some 31, _, _, _, _, _⟩) (v := ?_) rfl (by kernel_rfl) (by kernel_rfl) (by kernel_rfl) (fun _ _ _ h => h) (Or.inl ⟨by rfl, ?_⟩) hS ?_
          rotate_left
          · (intro _ hW; go_simp; try (with_reducible rfl))
          try simp only [Act.put, List.setIfInBounds_toArray, List.set_cons_zero, List.set_cons_succ]
          refine wpAnyH_take (i := 3) (oi := ⟨some 32, _, _, _, _, _⟩) (v := ?_) rfl (by kernel_rfl) (by kernel_rfl) (by kernel_rfl) (fun _ _ _ h => h) (Or.inl ⟨by rfl, ?_⟩) hS ?_
          rotate_left
          · (intro _ hW; go_simp; try (with_reducible rfl))
          try simp only [Act.put, List.setIfInBounds_toArray, List.set_cons_zero, List.set_cons_succ]
          refine wpAnyH_take (i := 4) (oi := ⟨some 33, _, _, _, _, _⟩) (v := ?_) rfl (by kernel_rfl) (by kernel_rfl) (by kernel_rfl) (fun _ _ _ h => h) (Or.inl ⟨by rfl, ?_⟩) hS ?_
          rotate_left
          · (intro _ hW; go_simp; try (with_reducible rfl))
          try simp only [Act.put, List.setIfInBounds_toArray, List.set_cons_zero, List.set_cons_succ]
          refine wpAnyH_take (i := 5) (oi := ⟨some 34, _, _, _, _, _⟩) (v := ?_) rfl (by kernel_rfl) (by kernel_rfl) (by kernel_rfl) (fun _ _ _ h => h) (Or.inl ⟨by rfl, ?_⟩) hS ?_
          rotate_left
          · (intro _ hW; go_simp; try (with_reducible rfl))
          try simp only [Act.put, List.setIfInBounds_toArray, List.set_cons_zero, List.set_cons_succ]
          refine wpAnyH_ready (rs := [1, 6]) (by kernel_rfl) (by simp) ?_
          refine AllReadyH.cons rfl (fun K hK => ?_) (AllReadyH.cons rfl (fun K hK => ?_) AllReadyH.nil)
          · go_simp
            refine hK.out _ _ ?_ (fun hS => ?_)
            · exact CY.out _ (by exact HBY.out.trans (by go_grown))
            clear hK K
            try simp only [Act.put, List.setIfInBounds_toArray, List.set_cons_zero, List.set_cons_succ]
            refine wpAnyH_ready (rs := [6]) (by kernel_rfl) (by simp) ?_
            refine AllReadyH.cons rfl (fun K hK => ?_) AllReadyH.nil
            go_simp
            refine hK.out _ _ ?_ (fun hS => ?_)
            · exact CY.out _ (by exact HBY.out.trans (by go_grown))
            clear hK K
            try simp only [Act.put, List.setIfInBounds_toArray, List.set_cons_zero, List.set_cons_succ]
            refine wpAnyH_ready (rs := [7]) (by kernel_rfl) (by simp) ?_
            refine AllReadyH.cons rfl (fun K hK => ?_) AllReadyH.nil
            refine step_lift (by rfl) ?_
            refine elemByte.wp_append (.tmp 30) (.tmp 35) rfl rfl (HOY.out.alloc _) rfl (reads_block (b := wY.heap.size) (n := 1) (B := wY.heap.size + 1) (xs := bys [y]) (by omega) (heap_at rfl) rfl rfl) (bys_one _) (by unfold maxLen; omega) (by omega) (by simp; omega) ?_
            intro v3 w3 ho3 hg3 hat3
            obtain ⟨A3, c3, hv3, _⟩ := own_shape ho3
            subst hv3
            clear hat3
            replace hg3 : (World.alloc wY (.cells #[.int .u8 (y.toNat : Int)] 5)).grownBy w3 (Value.slice A2 (n + j) c2).ownBlock := ⟨hg3.os, hg3.tape, hg3.output, hg3.size, hg3.block⟩
            have r0 := row_kept R0.out HOY.out hg3 (by decide)
            have r1 := row_kept R1.out HOY.out hg3 (by decide)
            have hb3 : Below w.heap.size w w3 := Below.grown (HBY.out.alloc (by have := HBY.out.size; omega) _) hg3 (by have := HBY.out.size; simp; omega) (fun k hk => (HOY.out.lt k hk).1)
            have HB3 := Lib.hid hb3
            refine hK.out _ _ ?_ (fun hS => ?_)
            · exact CY.out _ (by exact HB3.out)
            clear hK K
            try simp only [Act.put, List.setIfInBounds_toArray, List.set_cons_zero, List.set_cons_succ]
            refine wpAnyH_take (i := 8) (oi := ⟨some 37, _, _, _, _, _⟩) (v := ?_) rfl (by kernel_rfl) (by kernel_rfl) (by kernel_rfl) (fun _ _ _ h => h) (Or.inl ⟨by rfl, ?_⟩) hS ?_
            rotate_left
            · (intro _ hW; go_simp; try (with_reducible rfl))
            try simp only [Act.put, List.setIfInBounds_toArray, List.set_cons_zero, List.set_cons_succ]
            have ho4 := HRN.out ▸ bys_append (d ++ x.take j) [y] ▸ ho3
            have e0 := cell_of_row _ _ 0 _ _ _ r0
            have e1 := cell_of_row _ _ 1 _ _ _ r0
            have f0 := frozen_of_row _ _ 0 _ _ r0
            have f1 := frozen_of_row _ _ 1 _ _ r0
            have l0 := row_lt r0
            have d0 := cell_of_row _ _ 0 _ _ _ r1
            have d1 := cell_of_row _ _ 1 _ _ _ r1
            have g0 := frozen_of_row _ _ 0 _ _ r1
            have g1 := frozen_of_row _ _ 1 _ _ r1
            have l1 := row_lt r1
            refine wpAnyH_ready (rs := [9]) (by kernel_rfl) (by simp) ?_
            refine AllReadyH.cons rfl (fun K hK => ?_) AllReadyH.nil
            go_simp
            refine hK.out _ _ ?_ (fun hS => ?_)
            · exact CY.out _ (by exact HB3.out.setCell (by simp) _)
            clear hK K
            try simp only [Act.put, List.setIfInBounds_toArray, List.set_cons_zero, List.set_cons_succ]
            refine wpAnyH_done (by kernel_rfl) ?_ _
            clear hS
            go_wp2_with fail
            go_roundw
            case rel =>
              exact ⟨j + 1, by omega, by go_num, HNX.out, A3, c3, set_row r0 _, far_row r1 (by simp) _, own_set ho4 (fun k hk e => row_ne r0 ho4 (by decide) (hk.trans (congrArg some e))) _, HB3.out.setCell (by simp) _⟩
            case measure => simp [intOf]; omega
          · go_simp
            refine hK.out _ _ ?_ (fun hS => ?_)
            · exact CY.out _ (by exact HBY.out.trans (by go_grown))
            clear hK K
            try simp only [Act.put, List.setIfInBounds_toArray, List.set_cons_zero, List.set_cons_succ]
            refine wpAnyH_ready (rs := [1]) (by kernel_rfl) (by simp) ?_
            refine AllReadyH.cons rfl (fun K hK => ?_) AllReadyH.nil
            go_simp
            refine hK.out _ _ ?_ (fun hS => ?_)
            · exact CY.out _ (by exact HBY.out.trans (by go_grown))
            clear hK K
            try simp only [Act.put, List.setIfInBounds_toArray, List.set_cons_zero, List.set_cons_succ]
            refine wpAnyH_ready (rs := [7]) (by kernel_rfl) (by simp) ?_
            refine AllReadyH.cons rfl (fun K hK => ?_) AllReadyH.nil
            refine step_lift (by rfl) ?_
            refine elemByte.wp_append (.tmp 30) (.tmp 35) rfl rfl (HOY.out.alloc _) rfl (reads_block (b := wY.heap.size) (n := 1) (B := wY.heap.size + 1) (xs := bys [y]) (by omega) (heap_at rfl) rfl rfl) (bys_one _) (by unfold maxLen; omega) (by omega) (by simp; omega) ?_
            intro v3 w3 ho3 hg3 hat3
            obtain ⟨A3, c3, hv3, _⟩ := own_shape ho3
            subst hv3
            clear hat3
            replace hg3 : (World.alloc wY (.cells #[.int .u8 (y.toNat : Int)] 5)).grownBy w3 (Value.slice A2 (n + j) c2).ownBlock := ⟨hg3.os, hg3.tape, hg3.output, hg3.size, hg3.block⟩
            have r0 := row_kept R0.out HOY.out hg3 (by decide)
            have r1 := row_kept R1.out HOY.out hg3 (by decide)
            have hb3 : Below w.heap.size w w3 := Below.grown (HBY.out.alloc (by have := HBY.out.size; omega) _) hg3 (by have := HBY.out.size; simp; omega) (fun k hk => (HOY.out.lt k hk).1)
            have HB3 := Lib.hid hb3
            refine hK.out _ _ ?_ (fun hS => ?_)
            · exact CY.out _ (by exact HB3.out)
            clear hK K
            try simp only [Act.put, List.setIfInBounds_toArray, List.set_cons_zero, List.set_cons_succ]
            refine wpAnyH_take (i := 8) (oi := ⟨some 37, _, _, _, _, _⟩) (v := ?_) rfl (by kernel_rfl) (by kernel_rfl) (by kernel_rfl) (fun _ _ _ h => h) (Or.inl ⟨by rfl, ?_⟩) hS ?_
            rotate_left
            · (intro _ hW; go_simp; try (with_reducible rfl))
            try simp only [Act.put, List.setIfInBounds_toArray, List.set_cons_zero, List.set_cons_succ]
            have ho4 := HRN.out ▸ bys_append (d ++ x.take j) [y] ▸ ho3
            have e0 := cell_of_row _ _ 0 _ _ _ r0
            have e1 := cell_of_row _ _ 1 _ _ _ r0
            have f0 := frozen_of_row _ _ 0 _ _ r0
            have f1 := frozen_of_row _ _ 1 _ _ r0
            have l0 := row_lt r0
            have d0 := cell_of_row _ _ 0 _ _ _ r1
            have d1 := cell_of_row _ _ 1 _ _ _ r1
            have g0 := frozen_of_row _ _ 0 _ _ r1
            have g1 := frozen_of_row _ _ 1 _ _ r1
            have l1 := row_lt r1
            refine wpAnyH_ready (rs := [9]) (by kernel_rfl) (by simp) ?_
            refine AllReadyH.cons rfl (fun K hK => ?_) AllReadyH.nil
            go_simp
            refine hK.out _ _ ?_ (fun hS => ?_)
            · exact CY.out _ (by exact HB3.out.setCell (by simp) _)
            clear hK K
            try simp only [Act.put, List.setIfInBounds_toArray, List.set_cons_zero, List.set_cons_succ]
            refine wpAnyH_done (by kernel_rfl) ?_ _
            clear hS
            go_wp2_with fail
            go_roundw
            case rel =>
              exact ⟨j + 1, by omega, by go_num, HNX.out, A3, c3, set_row r0 _, far_row r1 (by simp) _, own_set ho4 (fun k hk e => row_ne r0 ho4 (by decide) (hk.trans (congrArg some e))) _, HB3.out.setCell (by simp) _⟩
            case measure => simp [intOf]; omega
    · obtain rfl : j = n1 := by omega
      have HS := Lib.hid (hdone rfl)
      rw [HLEN.out.2] at HS
      have HXX := Lib.hid (show x.take j = x by rw [← HLEN.out.2]; exact List.take_length)
      clear hpj hstop hdone r0 r1 ho hb
      generalize powAt p j = P at *
      go_wp2_with fail
      refine bodyPost_ret (v := .tuple #[.agg #[.slice A2 (n + j) c2, .int .i64 P], .int .i64 0]) (by simp [results, Try.results37, go_sem, d0, d1, e0, e1]) rfl ?_
      have ho := HO2.out
      rw [HXX.out] at ho
      exact HS.out ▸ end_ref ho HB.out (by rw [List.length_append, HLEN.out.1, HLEN.out.2]) RR1.out (by omega) _ _
end Go.Proofs.Ytbkicepkkcambaa
