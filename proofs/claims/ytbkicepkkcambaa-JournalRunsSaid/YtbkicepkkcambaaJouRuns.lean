/- JournalRuns: the walk. -/
import Derived.Test.YtbkicepkkcambaaJouRunsA
namespace Go.Proofs.Ytbkicepkkcambaa
open Go.RowKit BigFrame Go.Shelf
set_option linter.unusedVariables false
set_option linter.unusedSimpArgs false

set_option maxRecDepth 100000 in
set_option maxHeartbeats 4000000 in
theorem runs_walk (A A' : Option Addr) (n c n' c' : Nat) (pw : List Int) (l : List Bytes) (w : World) (h : Ints w w.heap.size A n pw) (h' : Tx w w.heap.size A' n' l) (hnc : n ≤ c) (hc63 : c ≤ 9223372036854775807) (hnc' : n' ≤ c') (hc63' : c' ≤ 9223372036854775807) (hpw : ∀ x ∈ pw, -9223372036854775808 ≤ x ∧ x ≤ 9223372036854775807) :
    Calls Try.prog 3 #[.slice A n c, .slice A' n' c'] w fun e w' => e = .returned (.bool true) ∧ Below w.heap.size w w' := by
  have HI := Lib.hid h
  have HT := Lib.hid h'
  have HPW := Lib.hid hpw
  clear h h' hpw
  by_cases h12 : 12 < n
  · have i1 : (12 : Int) < n := by omega
    clear h12
    go_enter Try.func3, Try.ntmps3
    go_wp2_with fail
    refine (awake_any w).mono ?_
    rintro e w1 ⟨rfl, hb1⟩
    go_wp2_with fail
    go_ret
    exact ⟨rfl, hb1⟩
  · have i1 : decide ((12 : Int) < (n : Int)) = false := by rw [decide_eq_false_iff_not]; omega
    have h12' : n ≤ 12 := by omega
    clear h12
    by_cases h13 : 12 < n'
    · have i2 : (12 : Int) < n' := by omega
      clear h13
      go_enter Try.func3, Try.ntmps3
      go_wp2_with fail
      refine (awake_any w).mono ?_
      rintro e w1 ⟨rfl, hb1⟩
      go_wp2_with fail
      go_ret
      exact ⟨rfl, hb1⟩
    · have i2 : decide ((12 : Int) < (n' : Int)) = false := by rw [decide_eq_false_iff_not]; omega
      have h13' : n' ≤ 12 := by omega
      clear h13
      go_enter Try.func3, Try.ntmps3
      go_wp2_with fail
      obtain ⟨L, hL⟩ : ∃ L, w.heap.size = L := ⟨_, rfl⟩
      obtain ⟨R, hR⟩ : ∃ R, w.heap.size + 1 = R := ⟨_, rfl⟩
      have hLw : w.heap.size ≤ L := by omega
      have hRw : w.heap.size ≤ R := by omega
      have hLR : ¬ L = R := by omega
      have hRL : ¬ R = L := by omega
      have hlg0 : LgAt 29 w ((w.alloc (.cells #[.slice none 0 0, .int .i64 0, .int .i64 0, .bool false] 29)).alloc (.cells #[.slice none 0 0, .int .i64 0, .int .i64 0, .bool false] 32)) L Lg.zero := ⟨none, 0, (Below.heap_alloc _ _ _ (by simp; omega)).trans (heap_at hL.symm), World.ownsRow_nil _ _ _ _⟩
      have hrg0 : LgAt 32 w ((w.alloc (.cells #[.slice none 0 0, .int .i64 0, .int .i64 0, .bool false] 29)).alloc (.cells #[.slice none 0 0, .int .i64 0, .int .i64 0, .bool false] 32)) R Lg.zero := ⟨none, 0, heap_at (by simp; omega), World.ownsRow_nil _ _ _ _⟩
      have hb0 : Below w.heap.size w ((w.alloc (.cells #[.slice none 0 0, .int .i64 0, .int .i64 0, .bool false] 29)).alloc (.cells #[.slice none 0 0, .int .i64 0, .int .i64 0, .bool false] 32)) := by go_grown
      rw [hR, hL]
      generalize World.alloc (World.alloc w _) _ = wA at *
      clear hL hR
      go_loopg [7] n (fun gk v7 wr => ∃ (i : Nat) (lg : Lg), gk + i = n ∧ v7 = .int .i64 i ∧ LgAt 29 w wr L lg ∧ LgAt 32 w wr R lg ∧ lg.data.length ≤ 1048576 ∧ lg.power ≤ 9223372036854775807 ∧ Below w.heap.size w wr)
      case atStart => exact ⟨0, Lg.zero, rfl, rfl, hlg0, hrg0, by simp [Lg.zero], by simp [Lg.zero], hb0⟩
      case round =>
        obtain ⟨i, lg, hgi, rfl, hlg, hrg, hsz, hlp, hb⟩ := hrel
        have HLG := Lib.hid hlg
        have HRG := Lib.hid hrg
        have HB := Lib.hid hb
        have HGI := Lib.hid hgi
        obtain ⟨A5, c5, hr5, hc5, hc5', hy5⟩ := hlg.data_
        obtain ⟨A6, c6, hr6, hc6, hc6', hy6⟩ := hrg.data_
        have HR5 := Lib.hid hr5
        have HR6 := Lib.hid hr6
        have HY5 := Lib.hid hy5
        have HY6 := Lib.hid hy6
        have e0 : wr.cell? ⟨L, 0, none⟩ = some (.slice A5 lg.data.length c5) := cell_of_row _ _ 0 _ _ _ hr5
        have e1 : wr.cell? ⟨L, 1, none⟩ = some (.int .i64 lg.power) := cell_of_row _ _ 1 _ _ _ hr5
        have e2 : wr.cell? ⟨L, 2, none⟩ = some (.int .i64 lg.count) := cell_of_row _ _ 2 _ _ _ hr5
        have e3 : wr.cell? ⟨L, 3, none⟩ = some (.bool lg.down) := cell_of_row _ _ 3 _ _ _ hr5
        have hlL := row_lt hr5
        have hlR := row_lt hr6
        have hgn : gk ≤ n := by omega
        clear hlg hrg hb hgi hr5 hr6 hy5 hy6 hlg0 hrg0 hb0
        by_cases hlt : i < n
        · obtain ⟨pwi, b, o, hpi, hAe, hbB, cpi⟩ := (HI.out.to HB.out).at_ hlt
          subst hAe
          have hpb := HPW.out pwi (List.mem_of_getElem? hpi)
          have hki : (i : Int) < (n : Int) := by omega
          have hk0 : (0 : Int) ≤ (i : Int) := by omega
          have CPI := Lib.hid cpi
          have KEEP : Hid (∀ W', Below wr.heap.size wr W' → W'.cell? ⟨L, 0, none⟩ = some (.slice A5 lg.data.length c5) ∧ W'.cell? ⟨L, 1, none⟩ = some (.int .i64 lg.power) ∧ W'.cell? ⟨L, 2, none⟩ = some (.int .i64 lg.count) ∧ W'.cell? ⟨L, 3, none⟩ = some (.bool lg.down) ∧ W'.cell? ⟨b, o + i, none⟩ = some (.int .i64 pwi)) :=
            Lib.hid fun W' hW' => ⟨(hW'.cell (p := ⟨L, 0, none⟩) hlL).trans e0, (hW'.cell (p := ⟨L, 1, none⟩) hlL).trans e1, (hW'.cell (p := ⟨L, 2, none⟩) hlL).trans e2, (hW'.cell (p := ⟨L, 3, none⟩) hlL).trans e3, (hW'.cell (p := ⟨b, o + i, none⟩) hbB).trans CPI.out⟩
          obtain ⟨r, hr⟩ : ∃ r, restoreR lg pwi = r := ⟨_, rfl⟩
          have KR : Hid (∀ W', Below wr.heap.size wr W' → Calls Try.prog 10 #[.agg #[.slice A5 lg.data.length c5, .int .i64 lg.power, .int .i64 lg.count, .bool lg.down], .int .i64 pwi] W' (GivesSto W' r)) :=
            Lib.hid fun W' hW => by
              have := restore_any A5 lg.data.length c5 lg.power lg.count pwi lg.down lg.data W' (HY5.out.to hW) (by omega) hc5 hc5'
              rwa [hr] at this
          have HR := Lib.hid hr
          clear hpi cpi hr
          go_upto_region 8 with (fail)
          go_cut [8, 9] from 32 to 157 (fun s8 s9 wc => StAt 27 wr r s8 s9 wc)
          case first =>
            refine wp_region_held_drew (S := fun W' => W'.cell? ⟨L, 0, none⟩ = some (.slice A5 lg.data.length c5) ∧ W'.cell? ⟨L, 1, none⟩ = some (.int .i64 lg.power) ∧ W'.cell? ⟨L, 2, none⟩ = some (.int .i64 lg.count) ∧ W'.cell? ⟨L, 3, none⟩ = some (.bool lg.down) ∧ W'.cell? ⟨b, o + i, none⟩ = some (.int .i64 pwi)) (by kernel_rfl) (KEEP.out _ (by go_grown)) (fun hS => ?_)
            have hb : Below wr.heap.size wr wr.drew := by go_grown
            clear e0 e1 e2 e3
            refine wpAnyH_take (i := 0) (oi := ⟨some 39, _, _, _, _, _⟩) (v := ?_) rfl (by kernel_rfl) (by kernel_rfl) (by kernel_rfl) (fun _ _ _ h => h) (Or.inl ⟨by rfl, ?_⟩) hS ?_
            rotate_left
            · (intro _ hW; obtain ⟨hW0, hW1, hW2, hW3, hW4⟩ := hW; go_simp; try (with_reducible rfl))
            try simp only [Act.put, List.setIfInBounds_toArray, List.set_cons_zero, List.set_cons_succ]
            refine wpAnyH_take (i := 1) (oi := ⟨some 40, _, _, _, _, _⟩) (v := ?_) rfl (by kernel_rfl) (by kernel_rfl) (by kernel_rfl) (fun _ _ _ h => h) (Or.inl ⟨by rfl, ?_⟩) hS ?_
            rotate_left
            · (intro _ hW; obtain ⟨hW0, hW1, hW2, hW3, hW4⟩ := hW; go_simp; try (with_reducible rfl))
            try simp only [Act.put, List.setIfInBounds_toArray, List.set_cons_zero, List.set_cons_succ]
            refine wpAnyH_take (i := 2) (oi := ⟨some 41, _, _, _, _, _⟩) (v := ?_) rfl (by kernel_rfl) (by kernel_rfl) (by kernel_rfl) (fun _ _ _ h => h) (Or.inl ⟨by rfl, ?_⟩) hS ?_
            rotate_left
            · (intro _ hW; obtain ⟨hW0, hW1, hW2, hW3, hW4⟩ := hW; go_simp; try (with_reducible rfl))
            try simp only [Act.put, List.setIfInBounds_toArray, List.set_cons_zero, List.set_cons_succ]
            refine wpAnyH_take (i := 3) (oi := ⟨some 42, _, _, _, _, _⟩) (v := ?_) rfl (by kernel_rfl) (by kernel_rfl) (by kernel_rfl) (fun _ _ _ h => h) (Or.inl ⟨by rfl, ?_⟩) hS ?_
            rotate_left
            · (intro _ hW; obtain ⟨hW0, hW1, hW2, hW3, hW4⟩ := hW; go_simp; try (with_reducible rfl))
            try simp only [Act.put, List.setIfInBounds_toArray, List.set_cons_zero, List.set_cons_succ]
            refine wpAnyH_take (i := 4) (oi := ⟨some 43, _, _, _, _, _⟩) (v := ?_) rfl (by kernel_rfl) (by kernel_rfl) (by kernel_rfl) (fun _ _ _ h => h) (Or.inl ⟨by rfl, ?_⟩) hS ?_
            rotate_left
            · (intro _ hW; obtain ⟨hW0, hW1, hW2, hW3, hW4⟩ := hW; go_simp; try (with_reducible rfl))
            try simp only [Act.put, List.setIfInBounds_toArray, List.set_cons_zero, List.set_cons_succ]
            refine wpAnyH_ready (rs := [5, 9]) (by kernel_rfl) (by simp) ?_
            refine AllReadyH.cons rfl (fun K hK => ?_) (AllReadyH.cons rfl (fun K hK => ?_) AllReadyH.nil)
            · go_simp
              go_at_call 10
              (with_reducible refine (KR.out _ hb).mono ?_)
              rintro e w4 ⟨A4, c4, rfl, hoW, hb4⟩
              try replace hTr := (hb4.block _ (row_lt hTr)).trans hTr
              replace hb := hb.trans (hb4.mono hb.size)
              have hs4 := hb.size
              replace hoW := own_more (base' := wr.heap.size) hoW (by first | omega | (simp; done) | (simp; omega))
              refine hK.out _ _ ?_ (fun hS => ?_)
              · exact KEEP.out _ (by first | exact hb | go_grown)
              clear hK K
              try simp only [Act.put, List.setIfInBounds_toArray, List.set_cons_zero, List.set_cons_succ]
              refine wpAnyH_take (i := 6) (oi := ⟨some 38, _, _, _, _, _⟩) (v := ?_) rfl (by kernel_rfl) (by kernel_rfl) (by kernel_rfl) (fun _ _ _ h => h) (Or.inl ⟨by rfl, ?_⟩) hS ?_
              rotate_left
              · (intro _ hW; obtain ⟨hW0, hW1, hW2, hW3, hW4⟩ := hW; go_simp; try (with_reducible rfl))
              try simp only [Act.put, List.setIfInBounds_toArray, List.set_cons_zero, List.set_cons_succ]
              refine wpAnyH_take (i := 7) (oi := ⟨some 45, _, _, _, _, _⟩) (v := ?_) rfl (by kernel_rfl) (by kernel_rfl) (by kernel_rfl) (fun _ _ _ h => h) (Or.inl ⟨by rfl, ?_⟩) hS ?_
              rotate_left
              · (intro _ hW; obtain ⟨hW0, hW1, hW2, hW3, hW4⟩ := hW; go_simp; try (with_reducible rfl))
              try simp only [Act.put, List.setIfInBounds_toArray, List.set_cons_zero, List.set_cons_succ]
              refine wpAnyH_take (i := 8) (oi := ⟨some 46, _, _, _, _, _⟩) (v := ?_) rfl (by kernel_rfl) (by kernel_rfl) (by kernel_rfl) (fun _ _ _ h => h) (Or.inl ⟨by rfl, ?_⟩) hS ?_
              rotate_left
              · (intro _ hW; obtain ⟨hW0, hW1, hW2, hW3, hW4⟩ := hW; go_simp; try (with_reducible rfl))
              try simp only [Act.put, List.setIfInBounds_toArray, List.set_cons_zero, List.set_cons_succ]
              refine wpAnyH_ready (rs := [9]) (by kernel_rfl) (by simp) ?_
              refine AllReadyH.cons rfl (fun K hK => ?_) AllReadyH.nil
              go_simp
              have hTr := (heap_at (w := w4) (o := .cells #[.slice none 0 0, .int .i64 0] 27) rfl)
              have hTl : wr.heap.size ≤ (w4).heap.size := (by first | omega | (simp; done) | (simp; omega))
              replace hb := hb.alloc (by first | omega | (simp; done) | (simp; omega)) (.cells #[.slice none 0 0, .int .i64 0] 27)
              try replace hoW := hoW.alloc (.cells #[.slice none 0 0, .int .i64 0] 27)
              refine hK.out _ _ ?_ (fun hS => ?_)
              · exact KEEP.out _ (by first | exact hb | go_grown)
              clear hK K
              try simp only [Act.put, List.setIfInBounds_toArray, List.set_cons_zero, List.set_cons_succ]
              obtain ⟨wX, hwX⟩ : ∃ wX, wX = w4.alloc (.cells #[.slice none 0 0, .int .i64 0] 27) := ⟨_, rfl⟩
              rw [← hwX]
              obtain ⟨T, hT⟩ : ∃ T, T = w4.heap.size := ⟨_, rfl⟩
              rw [← hT]
              replace hTr : wX.heap[T]? = some (.cells #[.slice none 0 0, .int .i64 0] 27 (0, 0)) := by rw [hwX, hT]; exact hTr
              replace hTl : wr.heap.size ≤ T := by rw [hT]; exact hTl
              replace hb : Below wr.heap.size wr wX := by rw [hwX]; exact hb
              replace hoW : wX.ownsRow wr.heap.size 5 1 (.slice A4 r.1.data.length c4) r.1.data.length (bys r.1.data) := by rw [hwX]; exact hoW
              have t0 := cell_of_row _ _ 0 _ _ _ hTr
              have t1 := cell_of_row _ _ 1 _ _ _ hTr
              have tf0 := frozen_of_row _ _ 0 _ _ hTr
              have tf1 := frozen_of_row _ _ 1 _ _ hTr
              have tl := row_lt hTr
              have HTR := Lib.hid hTr
              have HOW := Lib.hid hoW
              have HBX := Lib.hid hb
              clear hT hwX hTr hoW
              refine wpAnyH_ready (rs := [10]) (by kernel_rfl) (by simp) ?_
              refine AllReadyH.cons rfl (fun K hK => ?_) AllReadyH.nil
              go_simp
              refine hK.out _ _ (KEEP.out _ ((hb.setCell (by dsimp only; omega) _).setCell (by dsimp only; omega) _)) (fun hS => ?_)
              clear hK K
              try simp only [Act.put, List.setIfInBounds_toArray, List.set_cons_zero, List.set_cons_succ]
              refine wpAnyH_take (i := 11) (oi := ⟨some 9, _, _, _, _, _⟩) (v := ?_) rfl (by kernel_rfl) (by kernel_rfl) (by kernel_rfl) (fun _ _ _ h => h) (Or.inl ⟨by rfl, ?_⟩) hS ?_
              rotate_left
              · (intro _ hW; obtain ⟨hW0, hW1, hW2, hW3, hW4⟩ := hW; go_simp; try (with_reducible rfl))
              try simp only [Act.put, List.setIfInBounds_toArray, List.set_cons_zero, List.set_cons_succ]
              refine wpAnyH_done (by kernel_rfl) ?_ _
              clear hS t0 t1 tf0 tf1 tl
              go_wp2_with fail
              go_meet
              case rel =>
                have hbf := (HBX.out.setCell (p := ⟨T, 0, none⟩) (by dsimp only; omega) (.slice A4 r.1.data.length c4)).setCell (p := ⟨T, 1, none⟩) (by dsimp only; omega) (.int .i64 r.1.power)
                refine ⟨T, A4, c4, rfl, rfl, set_row (set_row HTR.out _) _, own_set (own_set HOW.out ?_ _) ?_ _, hbf⟩
                all_goals exact fun k hk e => row_ne HTR.out HOW.out (by decide) (hk.trans (congrArg some e))
            · go_simp
              have hTr := (heap_at (w := wr) (o := .cells #[.slice none 0 0, .int .i64 0] 27) rfl)
              have hTl : wr.heap.size ≤ (wr).heap.size := (by first | omega | (simp; done) | (simp; omega))
              replace hb := hb.alloc (by first | omega | (simp; done) | (simp; omega)) (.cells #[.slice none 0 0, .int .i64 0] 27)
              try replace hoW := hoW.alloc (.cells #[.slice none 0 0, .int .i64 0] 27)
              refine hK.out _ _ ?_ (fun hS => ?_)
              · exact KEEP.out _ (by first | exact hb | go_grown)
              clear hK K
              try simp only [Act.put, List.setIfInBounds_toArray, List.set_cons_zero, List.set_cons_succ]
              replace hb : Below wr.heap.size wr (wr.alloc (.cells #[.slice none 0 0, .int .i64 0] 27)).drew := by go_grown
              refine wpAnyH_ready (rs := [5]) (by kernel_rfl) (by simp) ?_
              refine AllReadyH.cons rfl (fun K hK => ?_) AllReadyH.nil
              go_simp
              go_at_call 10
              (with_reducible refine (KR.out _ hb).mono ?_)
              rintro e w4 ⟨A4, c4, rfl, hoW, hb4⟩
              try replace hTr := (hb4.block _ (row_lt hTr)).trans hTr
              replace hb := hb.trans (hb4.mono hb.size)
              have hs4 := hb.size
              replace hoW := own_more (base' := wr.heap.size) hoW (by first | omega | (simp; done) | (simp; omega))
              refine hK.out _ _ ?_ (fun hS => ?_)
              · exact KEEP.out _ (by first | exact hb | go_grown)
              clear hK K
              try simp only [Act.put, List.setIfInBounds_toArray, List.set_cons_zero, List.set_cons_succ]
              refine wpAnyH_take (i := 6) (oi := ⟨some 38, _, _, _, _, _⟩) (v := ?_) rfl (by kernel_rfl) (by kernel_rfl) (by kernel_rfl) (fun _ _ _ h => h) (Or.inl ⟨by rfl, ?_⟩) hS ?_
              rotate_left
              · (intro _ hW; obtain ⟨hW0, hW1, hW2, hW3, hW4⟩ := hW; go_simp; try (with_reducible rfl))
              try simp only [Act.put, List.setIfInBounds_toArray, List.set_cons_zero, List.set_cons_succ]
              refine wpAnyH_take (i := 7) (oi := ⟨some 45, _, _, _, _, _⟩) (v := ?_) rfl (by kernel_rfl) (by kernel_rfl) (by kernel_rfl) (fun _ _ _ h => h) (Or.inl ⟨by rfl, ?_⟩) hS ?_
              rotate_left
              · (intro _ hW; obtain ⟨hW0, hW1, hW2, hW3, hW4⟩ := hW; go_simp; try (with_reducible rfl))
              try simp only [Act.put, List.setIfInBounds_toArray, List.set_cons_zero, List.set_cons_succ]
              refine wpAnyH_take (i := 8) (oi := ⟨some 46, _, _, _, _, _⟩) (v := ?_) rfl (by kernel_rfl) (by kernel_rfl) (by kernel_rfl) (fun _ _ _ h => h) (Or.inl ⟨by rfl, ?_⟩) hS ?_
              rotate_left
              · (intro _ hW; obtain ⟨hW0, hW1, hW2, hW3, hW4⟩ := hW; go_simp; try (with_reducible rfl))
              try simp only [Act.put, List.setIfInBounds_toArray, List.set_cons_zero, List.set_cons_succ]
              obtain ⟨wX, hwX⟩ : ∃ wX, wX = w4 := ⟨_, rfl⟩
              rw [← hwX]
              obtain ⟨T, hT⟩ : ∃ T, T = wr.heap.size := ⟨_, rfl⟩
              rw [← hT]
              replace hTr : wX.heap[T]? = some (.cells #[.slice none 0 0, .int .i64 0] 27 (0, 0)) := by rw [hwX, hT]; exact hTr
              replace hTl : wr.heap.size ≤ T := by rw [hT]; exact hTl
              replace hb : Below wr.heap.size wr wX := by rw [hwX]; exact hb
              replace hoW : wX.ownsRow wr.heap.size 5 1 (.slice A4 r.1.data.length c4) r.1.data.length (bys r.1.data) := by rw [hwX]; exact hoW
              have t0 := cell_of_row _ _ 0 _ _ _ hTr
              have t1 := cell_of_row _ _ 1 _ _ _ hTr
              have tf0 := frozen_of_row _ _ 0 _ _ hTr
              have tf1 := frozen_of_row _ _ 1 _ _ hTr
              have tl := row_lt hTr
              have HTR := Lib.hid hTr
              have HOW := Lib.hid hoW
              have HBX := Lib.hid hb
              clear hT hwX hTr hoW
              refine wpAnyH_ready (rs := [10]) (by kernel_rfl) (by simp) ?_
              refine AllReadyH.cons rfl (fun K hK => ?_) AllReadyH.nil
              go_simp
              refine hK.out _ _ (KEEP.out _ ((hb.setCell (by dsimp only; omega) _).setCell (by dsimp only; omega) _)) (fun hS => ?_)
              clear hK K
              try simp only [Act.put, List.setIfInBounds_toArray, List.set_cons_zero, List.set_cons_succ]
              refine wpAnyH_take (i := 11) (oi := ⟨some 9, _, _, _, _, _⟩) (v := ?_) rfl (by kernel_rfl) (by kernel_rfl) (by kernel_rfl) (fun _ _ _ h => h) (Or.inl ⟨by rfl, ?_⟩) hS ?_
              rotate_left
              · (intro _ hW; obtain ⟨hW0, hW1, hW2, hW3, hW4⟩ := hW; go_simp; try (with_reducible rfl))
              try simp only [Act.put, List.setIfInBounds_toArray, List.set_cons_zero, List.set_cons_succ]
              refine wpAnyH_done (by kernel_rfl) ?_ _
              clear hS t0 t1 tf0 tf1 tl
              go_wp2_with fail
              go_meet
              case rel =>
                have hbf := (HBX.out.setCell (p := ⟨T, 0, none⟩) (by dsimp only; omega) (.slice A4 r.1.data.length c4)).setCell (p := ⟨T, 1, none⟩) (by dsimp only; omega) (.int .i64 r.1.power)
                refine ⟨T, A4, c4, rfl, rfl, set_row (set_row HTR.out _) _, own_set (own_set HOW.out ?_ _) ?_ _, hbf⟩
                all_goals exact fun k hk e => row_ne HTR.out HOW.out (by decide) (hk.trans (congrArg some e))
          case rest =>
            obtain ⟨T1, A7, c7, rfl, rfl, hr7, ho7, hb7⟩ := hcut
            have HB7 := Lib.hid hb7
            have HO7 := Lib.hid ho7
            have HR7 := Lib.hid hr7
            have hs7 := hb7.size
            have hr6 := (hb7.block R hlR).trans HR6.out
            have e0 : wc.cell? ⟨R, 0, none⟩ = some (.slice A6 lg.data.length c6) := cell_of_row _ _ 0 _ _ _ hr6
            have e1 : wc.cell? ⟨R, 1, none⟩ = some (.int .i64 lg.power) := cell_of_row _ _ 1 _ _ _ hr6
            have e2 : wc.cell? ⟨R, 2, none⟩ = some (.int .i64 lg.count) := cell_of_row _ _ 2 _ _ _ hr6
            have e3 : wc.cell? ⟨R, 3, none⟩ = some (.bool lg.down) := cell_of_row _ _ 3 _ _ _ hr6
            have hpi8 := (KEEP.out wc hb7).2.2.2.2
            have hlR7 := Nat.lt_of_lt_of_le hlR hs7
            have hbB7 := Nat.lt_of_lt_of_le hbB hs7
            replace KEEP : Hid (∀ W', Below wc.heap.size wc W' → W'.cell? ⟨R, 0, none⟩ = some (.slice A6 lg.data.length c6) ∧ W'.cell? ⟨R, 1, none⟩ = some (.int .i64 lg.power) ∧ W'.cell? ⟨R, 2, none⟩ = some (.int .i64 lg.count) ∧ W'.cell? ⟨R, 3, none⟩ = some (.bool lg.down) ∧ W'.cell? ⟨b, o + i, none⟩ = some (.int .i64 pwi)) :=
              Lib.hid fun W' hW' => ⟨(hW'.cell (p := ⟨R, 0, none⟩) hlR7).trans e0, (hW'.cell (p := ⟨R, 1, none⟩) hlR7).trans e1, (hW'.cell (p := ⟨R, 2, none⟩) hlR7).trans e2, (hW'.cell (p := ⟨R, 3, none⟩) hlR7).trans e3, (hW'.cell (p := ⟨b, o + i, none⟩) hbB7).trans hpi8⟩
            replace KR : Hid (∀ W', Below wc.heap.size wc W' → Calls Try.prog 11 #[.agg #[.slice A6 lg.data.length c6, .int .i64 lg.power, .int .i64 lg.count, .bool lg.down], .int .i64 pwi] W' (GivesSto W' r)) :=
              Lib.hid fun W' hW => by
                have := refrestore_any A6 lg.data.length c6 lg.power lg.count pwi lg.down lg.data W' (HY6.out.to (after HB7.out hW)) (by omega) hc6 hc6'
                rw [← HR.out]
                exact this
            clear hr6 hb7 ho7 hr7 hpi8
            generalize wc = wd at *
            go_upto_region 9 with (fail)
            go_cut [10, 11] from 32 to 157 (fun s10 s11 wc => StAt 30 wd r s10 s11 wc)
            case first =>
              refine wp_region_held_drew (S := fun W' => W'.cell? ⟨R, 0, none⟩ = some (.slice A6 lg.data.length c6) ∧ W'.cell? ⟨R, 1, none⟩ = some (.int .i64 lg.power) ∧ W'.cell? ⟨R, 2, none⟩ = some (.int .i64 lg.count) ∧ W'.cell? ⟨R, 3, none⟩ = some (.bool lg.down) ∧ W'.cell? ⟨b, o + i, none⟩ = some (.int .i64 pwi)) (by kernel_rfl) (KEEP.out _ (by go_grown)) (fun hS => ?_)
              have hb : Below wd.heap.size wd wd.drew := by go_grown
              clear e0 e1 e2 e3
              refine wpAnyH_take (i := 0) (oi := ⟨some 48, _, _, _, _, _⟩) (v := ?_) rfl (by kernel_rfl) (by kernel_rfl) (by kernel_rfl) (fun _ _ _ h => h) (Or.inl ⟨by rfl, ?_⟩) hS ?_
              rotate_left
              · (intro _ hW; obtain ⟨hW0, hW1, hW2, hW3, hW4⟩ := hW; go_simp; try (with_reducible rfl))
              try simp only [Act.put, List.setIfInBounds_toArray, List.set_cons_zero, List.set_cons_succ]
              refine wpAnyH_take (i := 1) (oi := ⟨some 49, _, _, _, _, _⟩) (v := ?_) rfl (by kernel_rfl) (by kernel_rfl) (by kernel_rfl) (fun _ _ _ h => h) (Or.inl ⟨by rfl, ?_⟩) hS ?_
              rotate_left
              · (intro _ hW; obtain ⟨hW0, hW1, hW2, hW3, hW4⟩ := hW; go_simp; try (with_reducible rfl))
              try simp only [Act.put, List.setIfInBounds_toArray, List.set_cons_zero, List.set_cons_succ]
              refine wpAnyH_take (i := 2) (oi := ⟨some 50, _, _, _, _, _⟩) (v := ?_) rfl (by kernel_rfl) (by kernel_rfl) (by kernel_rfl) (fun _ _ _ h => h) (Or.inl ⟨by rfl, ?_⟩) hS ?_
              rotate_left
              · (intro _ hW; obtain ⟨hW0, hW1, hW2, hW3, hW4⟩ := hW; go_simp; try (with_reducible rfl))
              try simp only [Act.put, List.setIfInBounds_toArray, List.set_cons_zero, List.set_cons_succ]
              refine wpAnyH_take (i := 3) (oi := ⟨some 51, _, _, _, _, _⟩) (v := ?_) rfl (by kernel_rfl) (by kernel_rfl) (by kernel_rfl) (fun _ _ _ h => h) (Or.inl ⟨by rfl, ?_⟩) hS ?_
              rotate_left
              · (intro _ hW; obtain ⟨hW0, hW1, hW2, hW3, hW4⟩ := hW; go_simp; try (with_reducible rfl))
              try simp only [Act.put, List.setIfInBounds_toArray, List.set_cons_zero, List.set_cons_succ]
              refine wpAnyH_take (i := 4) (oi := ⟨some 52, _, _, _, _, _⟩) (v := ?_) rfl (by kernel_rfl) (by kernel_rfl) (by kernel_rfl) (fun _ _ _ h => h) (Or.inl ⟨by rfl, ?_⟩) hS ?_
              rotate_left
              · (intro _ hW; obtain ⟨hW0, hW1, hW2, hW3, hW4⟩ := hW; go_simp; try (with_reducible rfl))
              try simp only [Act.put, List.setIfInBounds_toArray, List.set_cons_zero, List.set_cons_succ]
              refine wpAnyH_ready (rs := [5, 9]) (by kernel_rfl) (by simp) ?_
              refine AllReadyH.cons rfl (fun K hK => ?_) (AllReadyH.cons rfl (fun K hK => ?_) AllReadyH.nil)
              · go_simp
                go_at_call 11
                (with_reducible refine (KR.out _ hb).mono ?_)
                rintro e w4 ⟨A4, c4, rfl, hoW, hb4⟩
                try replace hTr := (hb4.block _ (row_lt hTr)).trans hTr
                replace hb := hb.trans (hb4.mono hb.size)
                have hs4 := hb.size
                replace hoW := own_more (base' := wd.heap.size) hoW (by first | omega | (simp; done) | (simp; omega))
                refine hK.out _ _ ?_ (fun hS => ?_)
                · exact KEEP.out _ (by first | exact hb | go_grown)
                clear hK K
                try simp only [Act.put, List.setIfInBounds_toArray, List.set_cons_zero, List.set_cons_succ]
                refine wpAnyH_take (i := 6) (oi := ⟨some 47, _, _, _, _, _⟩) (v := ?_) rfl (by kernel_rfl) (by kernel_rfl) (by kernel_rfl) (fun _ _ _ h => h) (Or.inl ⟨by rfl, ?_⟩) hS ?_
                rotate_left
                · (intro _ hW; obtain ⟨hW0, hW1, hW2, hW3, hW4⟩ := hW; go_simp; try (with_reducible rfl))
                try simp only [Act.put, List.setIfInBounds_toArray, List.set_cons_zero, List.set_cons_succ]
                refine wpAnyH_take (i := 7) (oi := ⟨some 54, _, _, _, _, _⟩) (v := ?_) rfl (by kernel_rfl) (by kernel_rfl) (by kernel_rfl) (fun _ _ _ h => h) (Or.inl ⟨by rfl, ?_⟩) hS ?_
                rotate_left
                · (intro _ hW; obtain ⟨hW0, hW1, hW2, hW3, hW4⟩ := hW; go_simp; try (with_reducible rfl))
                try simp only [Act.put, List.setIfInBounds_toArray, List.set_cons_zero, List.set_cons_succ]
                refine wpAnyH_take (i := 8) (oi := ⟨some 55, _, _, _, _, _⟩) (v := ?_) rfl (by kernel_rfl) (by kernel_rfl) (by kernel_rfl) (fun _ _ _ h => h) (Or.inl ⟨by rfl, ?_⟩) hS ?_
                rotate_left
                · (intro _ hW; obtain ⟨hW0, hW1, hW2, hW3, hW4⟩ := hW; go_simp; try (with_reducible rfl))
                try simp only [Act.put, List.setIfInBounds_toArray, List.set_cons_zero, List.set_cons_succ]
                refine wpAnyH_ready (rs := [9]) (by kernel_rfl) (by simp) ?_
                refine AllReadyH.cons rfl (fun K hK => ?_) AllReadyH.nil
                go_simp
                have hTr := (heap_at (w := w4) (o := .cells #[.slice none 0 0, .int .i64 0] 30) rfl)
                have hTl : wd.heap.size ≤ (w4).heap.size := (by first | omega | (simp; done) | (simp; omega))
                replace hb := hb.alloc (by first | omega | (simp; done) | (simp; omega)) (.cells #[.slice none 0 0, .int .i64 0] 30)
                try replace hoW := hoW.alloc (.cells #[.slice none 0 0, .int .i64 0] 30)
                refine hK.out _ _ ?_ (fun hS => ?_)
                · exact KEEP.out _ (by first | exact hb | go_grown)
                clear hK K
                try simp only [Act.put, List.setIfInBounds_toArray, List.set_cons_zero, List.set_cons_succ]
                obtain ⟨wX, hwX⟩ : ∃ wX, wX = w4.alloc (.cells #[.slice none 0 0, .int .i64 0] 30) := ⟨_, rfl⟩
                rw [← hwX]
                obtain ⟨T, hT⟩ : ∃ T, T = w4.heap.size := ⟨_, rfl⟩
                rw [← hT]
                replace hTr : wX.heap[T]? = some (.cells #[.slice none 0 0, .int .i64 0] 30 (0, 0)) := by rw [hwX, hT]; exact hTr
                replace hTl : wd.heap.size ≤ T := by rw [hT]; exact hTl
                replace hb : Below wd.heap.size wd wX := by rw [hwX]; exact hb
                replace hoW : wX.ownsRow wd.heap.size 5 1 (.slice A4 r.1.data.length c4) r.1.data.length (bys r.1.data) := by rw [hwX]; exact hoW
                have t0 := cell_of_row _ _ 0 _ _ _ hTr
                have t1 := cell_of_row _ _ 1 _ _ _ hTr
                have tf0 := frozen_of_row _ _ 0 _ _ hTr
                have tf1 := frozen_of_row _ _ 1 _ _ hTr
                have tl := row_lt hTr
                have HTR := Lib.hid hTr
                have HOW := Lib.hid hoW
                have HBX := Lib.hid hb
                clear hT hwX hTr hoW
                refine wpAnyH_ready (rs := [10]) (by kernel_rfl) (by simp) ?_
                refine AllReadyH.cons rfl (fun K hK => ?_) AllReadyH.nil
                go_simp
                refine hK.out _ _ (KEEP.out _ ((hb.setCell (by dsimp only; omega) _).setCell (by dsimp only; omega) _)) (fun hS => ?_)
                clear hK K
                try simp only [Act.put, List.setIfInBounds_toArray, List.set_cons_zero, List.set_cons_succ]
                refine wpAnyH_take (i := 11) (oi := ⟨some 11, _, _, _, _, _⟩) (v := ?_) rfl (by kernel_rfl) (by kernel_rfl) (by kernel_rfl) (fun _ _ _ h => h) (Or.inl ⟨by rfl, ?_⟩) hS ?_
                rotate_left
                · (intro _ hW; obtain ⟨hW0, hW1, hW2, hW3, hW4⟩ := hW; go_simp; try (with_reducible rfl))
                try simp only [Act.put, List.setIfInBounds_toArray, List.set_cons_zero, List.set_cons_succ]
                refine wpAnyH_done (by kernel_rfl) ?_ _
                clear hS t0 t1 tf0 tf1 tl
                go_wp2_with fail
                go_meet
                case rel =>
                  have hbf := (HBX.out.setCell (p := ⟨T, 0, none⟩) (by dsimp only; omega) (.slice A4 r.1.data.length c4)).setCell (p := ⟨T, 1, none⟩) (by dsimp only; omega) (.int .i64 r.1.power)
                  refine ⟨T, A4, c4, rfl, rfl, set_row (set_row HTR.out _) _, own_set (own_set HOW.out ?_ _) ?_ _, hbf⟩
                  all_goals exact fun k hk e => row_ne HTR.out HOW.out (by decide) (hk.trans (congrArg some e))
              · go_simp
                have hTr := (heap_at (w := wd) (o := .cells #[.slice none 0 0, .int .i64 0] 30) rfl)
                have hTl : wd.heap.size ≤ (wd).heap.size := (by first | omega | (simp; done) | (simp; omega))
                replace hb := hb.alloc (by first | omega | (simp; done) | (simp; omega)) (.cells #[.slice none 0 0, .int .i64 0] 30)
                try replace hoW := hoW.alloc (.cells #[.slice none 0 0, .int .i64 0] 30)
                refine hK.out _ _ ?_ (fun hS => ?_)
                · exact KEEP.out _ (by first | exact hb | go_grown)
                clear hK K
                try simp only [Act.put, List.setIfInBounds_toArray, List.set_cons_zero, List.set_cons_succ]
                replace hb : Below wd.heap.size wd (wd.alloc (.cells #[.slice none 0 0, .int .i64 0] 30)).drew := by go_grown
                refine wpAnyH_ready (rs := [5]) (by kernel_rfl) (by simp) ?_
                refine AllReadyH.cons rfl (fun K hK => ?_) AllReadyH.nil
                go_simp
                go_at_call 11
                (with_reducible refine (KR.out _ hb).mono ?_)
                rintro e w4 ⟨A4, c4, rfl, hoW, hb4⟩
                try replace hTr := (hb4.block _ (row_lt hTr)).trans hTr
                replace hb := hb.trans (hb4.mono hb.size)
                have hs4 := hb.size
                replace hoW := own_more (base' := wd.heap.size) hoW (by first | omega | (simp; done) | (simp; omega))
                refine hK.out _ _ ?_ (fun hS => ?_)
                · exact KEEP.out _ (by first | exact hb | go_grown)
                clear hK K
                try simp only [Act.put, List.setIfInBounds_toArray, List.set_cons_zero, List.set_cons_succ]
                refine wpAnyH_take (i := 6) (oi := ⟨some 47, _, _, _, _, _⟩) (v := ?_) rfl (by kernel_rfl) (by kernel_rfl) (by kernel_rfl) (fun _ _ _ h => h) (Or.inl ⟨by rfl, ?_⟩) hS ?_
                rotate_left
                · (intro _ hW; obtain ⟨hW0, hW1, hW2, hW3, hW4⟩ := hW; go_simp; try (with_reducible rfl))
                try simp only [Act.put, List.setIfInBounds_toArray, List.set_cons_zero, List.set_cons_succ]
                refine wpAnyH_take (i := 7) (oi := ⟨some 54, _, _, _, _, _⟩) (v := ?_) rfl (by kernel_rfl) (by kernel_rfl) (by kernel_rfl) (fun _ _ _ h => h) (Or.inl ⟨by rfl, ?_⟩) hS ?_
                rotate_left
                · (intro _ hW; obtain ⟨hW0, hW1, hW2, hW3, hW4⟩ := hW; go_simp; try (with_reducible rfl))
                try simp only [Act.put, List.setIfInBounds_toArray, List.set_cons_zero, List.set_cons_succ]
                refine wpAnyH_take (i := 8) (oi := ⟨some 55, _, _, _, _, _⟩) (v := ?_) rfl (by kernel_rfl) (by kernel_rfl) (by kernel_rfl) (fun _ _ _ h => h) (Or.inl ⟨by rfl, ?_⟩) hS ?_
                rotate_left
                · (intro _ hW; obtain ⟨hW0, hW1, hW2, hW3, hW4⟩ := hW; go_simp; try (with_reducible rfl))
                try simp only [Act.put, List.setIfInBounds_toArray, List.set_cons_zero, List.set_cons_succ]
                obtain ⟨wX, hwX⟩ : ∃ wX, wX = w4 := ⟨_, rfl⟩
                rw [← hwX]
                obtain ⟨T, hT⟩ : ∃ T, T = wd.heap.size := ⟨_, rfl⟩
                rw [← hT]
                replace hTr : wX.heap[T]? = some (.cells #[.slice none 0 0, .int .i64 0] 30 (0, 0)) := by rw [hwX, hT]; exact hTr
                replace hTl : wd.heap.size ≤ T := by rw [hT]; exact hTl
                replace hb : Below wd.heap.size wd wX := by rw [hwX]; exact hb
                replace hoW : wX.ownsRow wd.heap.size 5 1 (.slice A4 r.1.data.length c4) r.1.data.length (bys r.1.data) := by rw [hwX]; exact hoW
                have t0 := cell_of_row _ _ 0 _ _ _ hTr
                have t1 := cell_of_row _ _ 1 _ _ _ hTr
                have tf0 := frozen_of_row _ _ 0 _ _ hTr
                have tf1 := frozen_of_row _ _ 1 _ _ hTr
                have tl := row_lt hTr
                have HTR := Lib.hid hTr
                have HOW := Lib.hid hoW
                have HBX := Lib.hid hb
                clear hT hwX hTr hoW
                refine wpAnyH_ready (rs := [10]) (by kernel_rfl) (by simp) ?_
                refine AllReadyH.cons rfl (fun K hK => ?_) AllReadyH.nil
                go_simp
                refine hK.out _ _ (KEEP.out _ ((hb.setCell (by dsimp only; omega) _).setCell (by dsimp only; omega) _)) (fun hS => ?_)
                clear hK K
                try simp only [Act.put, List.setIfInBounds_toArray, List.set_cons_zero, List.set_cons_succ]
                refine wpAnyH_take (i := 11) (oi := ⟨some 11, _, _, _, _, _⟩) (v := ?_) rfl (by kernel_rfl) (by kernel_rfl) (by kernel_rfl) (fun _ _ _ h => h) (Or.inl ⟨by rfl, ?_⟩) hS ?_
                rotate_left
                · (intro _ hW; obtain ⟨hW0, hW1, hW2, hW3, hW4⟩ := hW; go_simp; try (with_reducible rfl))
                try simp only [Act.put, List.setIfInBounds_toArray, List.set_cons_zero, List.set_cons_succ]
                refine wpAnyH_done (by kernel_rfl) ?_ _
                clear hS t0 t1 tf0 tf1 tl
                go_wp2_with fail
                go_meet
                case rel =>
                  have hbf := (HBX.out.setCell (p := ⟨T, 0, none⟩) (by dsimp only; omega) (.slice A4 r.1.data.length c4)).setCell (p := ⟨T, 1, none⟩) (by dsimp only; omega) (.int .i64 r.1.power)
                  refine ⟨T, A4, c4, rfl, rfl, set_row (set_row HTR.out _) _, own_set (own_set HOW.out ?_ _) ?_ _, hbf⟩
                  all_goals exact fun k hk e => row_ne HTR.out HOW.out (by decide) (hk.trans (congrArg some e))
            case rest =>
              obtain ⟨T2, A8, c8, rfl, rfl, hr8, ho8, hb8⟩ := hcut
              have hr7 := (hb8.block T1 (row_lt HR7.out)).trans HR7.out
              have HR7c := Lib.hid hr7
              have HR8 := Lib.hid hr8
              have HO7c := Lib.hid (own_kept HO7.out hb8 (Nat.le_refl _))
              have cp7 := own_cap HO7.out
              have cp8 := own_cap ho8
              have hrs := restore_size (p := pwi) hsz
              have hrp := restore_power (l := lg) hpb.2
              rw [HR.out] at hrs hrp
              have HBC := Lib.hid (after HB7.out hb8)
              have F0 : ∀ p : Later wc, p.val.cell? ⟨T1, 0, none⟩ = some (.slice A7 r.1.data.length c7) := fun p => p.cell (a := ⟨T1, 0, none⟩) (row_lt hr7) (cell_of_row _ _ 0 _ _ _ hr7)
              have F1 : ∀ p : Later wc, p.val.cell? ⟨T1, 1, none⟩ = some (.int .i64 r.1.power) := fun p => p.cell (a := ⟨T1, 1, none⟩) (row_lt hr7) (cell_of_row _ _ 1 _ _ _ hr7)
              have G0 : ∀ p : Later wc, p.val.cell? ⟨T2, 0, none⟩ = some (.slice A8 r.1.data.length c8) := fun p => p.cell (a := ⟨T2, 0, none⟩) (row_lt hr8) (cell_of_row _ _ 0 _ _ _ hr8)
              have G1 : ∀ p : Later wc, p.val.cell? ⟨T2, 1, none⟩ = some (.int .i64 r.1.power) := fun p => p.cell (a := ⟨T2, 1, none⟩) (row_lt hr8) (cell_of_row _ _ 1 _ _ _ hr8)
              have KST := fun p : Later wc => Lib.hid (store_any A7 r.1.data.length c7 r.1.power p.val)
              have HY7 := Lib.hid (Bys.of_own HO7c.out)
              have HY8 := Lib.hid (Bys.of_own ho8)
              have KSS := fun p : Later wc => Lib.hid (sameStore_any A7 A8 r.1.data.length c7 r.1.data.length c8 r.1.power r.1.power r.1.data r.1.data p.val (HY7.out.to p.ok) (HY8.out.to p.ok))
              rw [show (decide (r.1.power = r.1.power) && (r.1.data == r.1.data)) = true from by simp] at KSS
              have i4 : (r.2 == r.2) = true := by simp
              have i4' : (r.2 != r.2) = false := by simp
              clear e0 e1 e2 e3 KR KEEP hr7 hr8 hb8 HO7 HR7 hlR7 hbB7 hs7
              go_wp2_with fail
              (refine wp_region_later (by kernel_rfl) (by kernel_rfl) ?_; (repeat (first | go_big_quiet_step ((first | (go_at_call 13; (with_reducible exact Calls.later _ (KST _).out)) | (go_at_call 12; (with_reducible exact Calls.later _ (KSS _).out)))) | quiet_step ((first | (go_at_call 13; (with_reducible exact Calls.later _ (KST _).out)) | (go_at_call 12; (with_reducible exact Calls.later _ (KSS _).out)))))); refine wpQuiet_nil ?_; intro _ hw1; obtain ⟨pq, hw2⟩ := hw1; subst hw2)
              clear KST KSS i4 i4'
              have hbq := pq.ok
              have HBF := Lib.hid (after HBC.out hbq)
              have e0 := F0 pq
              have e1 := F1 pq
              have HR8f := Lib.hid ((hbq.block T2 (row_lt HR8.out)).trans HR8.out)
              have KO := Lib.hid (fun W (hW : Below pq.val.heap.size pq.val W) => open_any A7 r.1.data.length c7 r.1.power r.1.data W ((HY7.out.to hbq).to hW) (by omega) cp7.1 cp7.2 hrp)
              have KO2 := Lib.hid (fun W (hW : Below pq.val.heap.size pq.val W) => refopen_any A8 r.1.data.length c8 r.1.power r.1.data W ((HY8.out.to hbq).to hW) (by omega) cp8.1 cp8.2 hrp)
              obtain ⟨q, hq⟩ : ∃ q, openR r.1 = q := ⟨_, rfl⟩
              have hqs := open_size hrs
              have hqp := open_power (s := r.1) hrp (by omega)
              have hqm := open_many r.1
              rw [show openR ⟨r.1.data, r.1.power⟩ = q from hq] at KO KO2
              rw [hq] at hqs hqp hqm
              clear hbq F0 F1 G0 G1 HR7c HR8 HO7c HY7 HY8 HR hq
              generalize pq.val = wf at *
              go_wp2_with fail
              (with_reducible refine (KO.out _ (Below.refl _ _)).mono ?_)
              rintro e w5 ⟨A9, c9, A10, c10, vs10, rfl, ho9, ho10, ht10, hb9⟩
              have HB9 := Lib.hid hb9
              have hr8 := (hb9.block T2 (row_lt HR8f.out)).trans HR8f.out
              have HR8g := Lib.hid hr8
              have HO9 := Lib.hid ho9
              have HTX := Lib.hid (Tx.of_own ho10 ht10)
              clear hb9 ho9 ho10 ht10 e0 e1 hr8 KO HR8f
              go_upto_region 13 with (fail)
              generalize hwG : World.alloc w5 _ = wG
              have hb5 : Below w5.heap.size w5 wG := by rw [← hwG]; go_grown
              have yM : wG.heap[w5.heap.size]? = some (.cells #[.slice A9 q.1.data.length c9, .int .i64 q.1.power, .int .i64 q.1.count, .bool q.1.down] 29 (0, 0)) := by rw [← hwG]; exact heap_at rfl
              have HBG := Lib.hid (after HB9.out hb5)
              have YM := Lib.hid yM
              have hr8 := (hb5.block T2 (row_lt HR8g.out)).trans HR8g.out
              have e0 := cell_of_row _ _ 0 _ _ _ hr8
              have e1 := cell_of_row _ _ 1 _ _ _ hr8
              have HO9g := Lib.hid (own_kept HO9.out hb5 (Nat.le_refl _))
              have HTXg := Lib.hid (HTX.out.to hb5)
              obtain ⟨M, hM⟩ : ∃ M, w5.heap.size = M := ⟨_, rfl⟩
              rw [hM] at YM ⊢
              have HML := Lib.hid (show wf.heap.size ≤ M by rw [← hM]; exact HB9.out.size)
              clear hwG hb5 yM hr8 HR8g HO9 HTX HB9 hM
              go_wp2_with fail
              (with_reducible refine (KO2.out _ HBG.out).mono ?_)
              rintro e w6 ⟨A11, c11, A12, c12, vs12, rfl, ho11, ho12, ht12, hb11⟩
              have HB11 := Lib.hid (after HBG.out hb11)
              have YM6 := Lib.hid ((hb11.block M (row_lt YM.out)).trans YM.out)
              have HO9h := Lib.hid (own_kept HO9g.out hb11 (Nat.le_refl _))
              have HTXh := Lib.hid (HTXg.out.to hb11)
              have HO11 := Lib.hid (own_more ho11 HBG.out.size)
              have HTY := Lib.hid (Tx.of_own ho12 ht12)
              clear hb11 ho11 ho12 ht12 e0 e1 KO2 YM HO9g HTXg HBG
              go_upto_region 14 with (fail)
              generalize hwH : World.alloc w6 _ = wH
              have hb6 : Below w6.heap.size w6 wH := by rw [← hwH]; go_grown
              have yN : wH.heap[w6.heap.size]? = some (.cells #[.slice A11 q.1.data.length c11, .int .i64 q.1.power, .int .i64 q.1.count, .bool q.1.down] 32 (0, 0)) := by rw [← hwH]; exact heap_at rfl
              have HBH := Lib.hid (after HB11.out hb6)
              have YN := Lib.hid yN
              have yM := (hb6.block M (row_lt YM6.out)).trans YM6.out
              have YMh := Lib.hid yM
              have HO9i := Lib.hid (own_kept HO9h.out hb6 (Nat.le_refl _))
              have HO11i := Lib.hid (own_kept HO11.out hb6 (Nat.le_refl _))
              have HTXi := Lib.hid (HTXh.out.to hb6)
              have HTYi := Lib.hid (HTY.out.to hb6)
              obtain ⟨N, hN⟩ : ∃ N, w6.heap.size = N := ⟨_, rfl⟩
              rw [hN] at YN yN ⊢
              have HNL := Lib.hid (show wf.heap.size ≤ N by rw [← hN]; exact HB11.out.size)
              have F0 : ∀ p : Later wH, p.val.cell? ⟨M, 0, none⟩ = some (.slice A9 q.1.data.length c9) := fun p => p.cell (a := ⟨M, 0, none⟩) (row_lt yM) (cell_of_row _ _ 0 _ _ _ yM)
              have F1 : ∀ p : Later wH, p.val.cell? ⟨M, 1, none⟩ = some (.int .i64 q.1.power) := fun p => p.cell (a := ⟨M, 1, none⟩) (row_lt yM) (cell_of_row _ _ 1 _ _ _ yM)
              have F2 : ∀ p : Later wH, p.val.cell? ⟨M, 2, none⟩ = some (.int .i64 q.1.count) := fun p => p.cell (a := ⟨M, 2, none⟩) (row_lt yM) (cell_of_row _ _ 2 _ _ _ yM)
              have F3 : ∀ p : Later wH, p.val.cell? ⟨M, 3, none⟩ = some (.bool q.1.down) := fun p => p.cell (a := ⟨M, 3, none⟩) (row_lt yM) (cell_of_row _ _ 3 _ _ _ yM)
              have G0 : ∀ p : Later wH, p.val.cell? ⟨N, 0, none⟩ = some (.slice A11 q.1.data.length c11) := fun p => p.cell (a := ⟨N, 0, none⟩) (row_lt yN) (cell_of_row _ _ 0 _ _ _ yN)
              have G1 : ∀ p : Later wH, p.val.cell? ⟨N, 1, none⟩ = some (.int .i64 q.1.power) := fun p => p.cell (a := ⟨N, 1, none⟩) (row_lt yN) (cell_of_row _ _ 1 _ _ _ yN)
              have G2 : ∀ p : Later wH, p.val.cell? ⟨N, 2, none⟩ = some (.int .i64 q.1.count) := fun p => p.cell (a := ⟨N, 2, none⟩) (row_lt yN) (cell_of_row _ _ 2 _ _ _ yN)
              have G3 : ∀ p : Later wH, p.val.cell? ⟨N, 3, none⟩ = some (.bool q.1.down) := fun p => p.cell (a := ⟨N, 3, none⟩) (row_lt yN) (cell_of_row _ _ 3 _ _ _ yN)
              have KPL := fun p : Later wH => Lib.hid (plain_any A9 q.1.data.length c9 q.1.power q.1.count q.1.down p.val)
              have KSL := fun p : Later wH => Lib.hid (sameLog_any A9 A11 q.1.data.length c9 q.1.data.length c11 q.1.power q.1.count q.1.down q.1.data p.val ((Bys.of_own HO9i.out).to p.ok) ((Bys.of_own HO11i.out).to p.ok))
              have KTX := fun p : Later wH => Lib.hid (sameTexts_any A10 A12 q.2.1.length c10 q.2.1.length c12 q.2.1 q.2.1 p.val (HTXi.out.to p.ok) (HTYi.out.to p.ok) (by omega) (by omega))
              rw [show decide (q.2.1 = q.2.1) = true from decide_eq_true rfl] at KTX
              have i5 : (q.2.2 == q.2.2) = true := by simp
              have i5' : (q.2.2 != q.2.2) = false := by simp
              clear hwH hb6 yM yN YM6 HO9h HO11 HTXh HTY HB11 hN
              go_wp2_with fail
              (refine wp_region_later (by kernel_rfl) (by kernel_rfl) ?_; (repeat (first | go_big_quiet_step ((first | (go_at_call 17; (with_reducible exact Calls.later _ (KPL _).out)) | (go_at_call 16; (with_reducible exact Calls.later _ (KSL _).out)) | (go_at_call 18; (with_reducible exact Calls.later _ (KTX _).out)))) | quiet_step ((first | (go_at_call 17; (with_reducible exact Calls.later _ (KPL _).out)) | (go_at_call 16; (with_reducible exact Calls.later _ (KSL _).out)) | (go_at_call 18; (with_reducible exact Calls.later _ (KTX _).out)))))); refine wpQuiet_nil ?_; intro _ hw1; obtain ⟨pr, hw2⟩ := hw1; subst hw2)
              clear KPL KSL KTX i5 i5' F0 F1 F2 F3 G0 G1 G2 G3 HTXi HTYi
              have hbr := pr.ok
              have yM := (hbr.block M (row_lt YMh.out)).trans YMh.out
              have yN := (hbr.block N (row_lt YN.out)).trans YN.out
              have HO9j := Lib.hid (own_more (own_kept HO9i.out hbr (Nat.le_refl _)) (Nat.le_trans HB.out.size HBF.out.size))
              have HO11j := Lib.hid (own_more (own_kept HO11i.out hbr (Nat.le_refl _)) (Nat.le_trans HB.out.size HBF.out.size))
              have hbI := after HBH.out hbr
              have hbW := after HBF.out hbI
              have HBI := Lib.hid hbI
              have HBW := Lib.hid hbW
              have hLGI := HLG.out.later hbW
              have hRGI := HRG.out.later hbW
              have HBwI := Lib.hid (after HB.out hbW)
              have YM := Lib.hid yM
              have YN2 := Lib.hid yN
              have HLGI := Lib.hid hLGI
              have HRGI := Lib.hid hRGI
              clear hbr hbI hbW hLGI hRGI YMh YN HO9i HO11i HBH yM yN
              generalize pr.val = wI at *
              go_upto_region 16 with (fail)
              obtain ⟨E1, hE1⟩ : ∃ E1, r.2 = E1 := ⟨_, rfl⟩
              obtain ⟨E2, hE2⟩ : ∃ E2, q.2.2 = E2 := ⟨_, rfl⟩
              rw [hE1, hE2]
              clear hE1 hE2
              obtain ⟨ok, hok⟩ : ∃ ok, (decide (E2 = 0) && decide (E1 = 0)) = ok := ⟨_, rfl⟩
              have HOK := Lib.hid hok
              clear hok
              go_cut [99] from 32 to 157 (fun s99 wc => s99 = .bool ok ∧ wc = wI)
              case first =>
                by_cases h2 : E2 = 0
                · have j2 : (E2 == 0) = true := by simpa using h2
                  by_cases h1 : E1 = 0
                  · have j1 : (E1 == 0) = true := by simpa using h1
                    go_wp2_with fail
                    go_meet
                    case rel => exact ⟨by rw [← HOK.out]; simp [h1, h2], rfl⟩
                  · have j1 : (E1 == 0) = false := by simpa using h1
                    go_wp2_with fail
                    go_meet
                    case rel => exact ⟨by rw [← HOK.out]; simp [h1, h2], rfl⟩
                · have j2 : (E2 == 0) = false := by simpa using h2
                  go_wp2_with fail
                  go_meet
                  case rel => exact ⟨by rw [← HOK.out]; simp [h2], rfl⟩
              case rest =>
                obtain ⟨rfl, rfl⟩ := hcut
                go_upto_if 99 with (fail)
                go_cut [] from 32 to 157 (fun wc => ∃ lg2 : Lg, LgAt 29 w wc L lg2 ∧ LgAt 32 w wc R lg2 ∧ lg2.data.length ≤ 1048576 ∧ lg2.power ≤ 9223372036854775807 ∧ Below w.heap.size w wc)
                case first =>
                  cases ok with
                  | false =>
                    go_wp2_with fail
                    go_meet
                    case rel => exact ⟨lg, HLGI.out, HRGI.out, hsz, hlp, HBwI.out⟩
                  | true =>
                    obtain ⟨AL, cL, rL, _⟩ := HLGI.out
                    obtain ⟨AR, cR, rR, _⟩ := HRGI.out
                    have hwf := HBF.out.size
                    have hm := HML.out
                    have hn := HNL.out
                    have m1 : ¬ M = L := by omega
                    have m2 : ¬ M = R := by omega
                    have m3 : ¬ N = L := by omega
                    have m4 : ¬ N = R := by omega
                    have m5 : ¬ L = M := by omega
                    have m6 : ¬ R = M := by omega
                    have m7 : ¬ L = N := by omega
                    have m8 : ¬ R = N := by omega
                    have RL := Lib.hid rL
                    have RR := Lib.hid rR
                    have e0 := cell_of_row _ _ 0 _ _ _ (YM.out)
                    have e1 := cell_of_row _ _ 1 _ _ _ (YM.out)
                    have e2 := cell_of_row _ _ 2 _ _ _ (YM.out)
                    have e3 := cell_of_row _ _ 3 _ _ _ (YM.out)
                    have d0 := cell_of_row _ _ 0 _ _ _ (YN2.out)
                    have d1 := cell_of_row _ _ 1 _ _ _ (YN2.out)
                    have d2 := cell_of_row _ _ 2 _ _ _ (YN2.out)
                    have d3 := cell_of_row _ _ 3 _ _ _ (YN2.out)
                    have l0 := cell_of_row _ _ 0 _ _ _ (rL)
                    have l1 := cell_of_row _ _ 1 _ _ _ (rL)
                    have l2 := cell_of_row _ _ 2 _ _ _ (rL)
                    have l3 := cell_of_row _ _ 3 _ _ _ (rL)
                    have k0 := cell_of_row _ _ 0 _ _ _ (rR)
                    have k1 := cell_of_row _ _ 1 _ _ _ (rR)
                    have k2 := cell_of_row _ _ 2 _ _ _ (rR)
                    have k3 := cell_of_row _ _ 3 _ _ _ (rR)
                    have lf0 := frozen_of_row _ _ 0 _ _ rL
                    have lf1 := frozen_of_row _ _ 1 _ _ rL
                    have lf2 := frozen_of_row _ _ 2 _ _ rL
                    have lf3 := frozen_of_row _ _ 3 _ _ rL
                    have ll := row_lt rL
                    have rf0 := frozen_of_row _ _ 0 _ _ rR
                    have rf1 := frozen_of_row _ _ 1 _ _ rR
                    have rf2 := frozen_of_row _ _ 2 _ _ rR
                    have rf3 := frozen_of_row _ _ 3 _ _ rR
                    have rl := row_lt rR
                    clear rL rR
                    go_upto_region 17 with (fail)
                    go_region
                    have hs1 := store_two (T := 29) (T' := 32) RL.out RR.out hLR (by decide) (by decide) HBwI.out hLw hRw HO9j.out HO11j.out
                    have hs2 := store_two (T := 32) (T' := 29) RR.out RL.out hRL (by decide) (by decide) HBwI.out hRw hLw HO11j.out HO9j.out
                    all_goals go_wp2_with fail
                    all_goals go_meet
                    all_goals first
                      | exact ⟨q.1, hs1.1.later (Below.refl _ _).drew, hs1.2.1.later (Below.refl _ _).drew, hqs, hqp, hs1.2.2.drew⟩
                      | exact ⟨q.1, hs2.2.1.later (Below.refl _ _).drew, hs2.1.later (Below.refl _ _).drew, hqs, hqp, hs2.2.2.drew⟩
                case rest =>
                  obtain ⟨lg2, hlg2, hrg2, hsz2, hlp2, hb2⟩ := hcut
                  clear hqs hqp hqm hrs hrp cp7 cp8 HML HNL YM YN2 HO9j HO11j HBI HBW HLGI HRGI HBwI HBF HBC HLG HRG HR5 HR6 HY5 HY6 CPI HPW
                  obtain ⟨g1, hg1⟩ : ∃ g1, g1 = gk - 1 := ⟨_, rfl⟩
                  have HG1 : Hid (g1 < gk ∧ g1 + (i + 1) = n) := Lib.hid (by have := HGI.out; omega)
                  clear hg1
                  generalize wc = wJ at *
                  go_wp2_with fail
                  go_loopg [18] n' (fun gk v18 wr => ∃ (k : Nat) (lg3 : Lg), gk + k = n' ∧ v18 = .int .i64 k ∧ LgAt 29 w wr L lg3 ∧ LgAt 32 w wr R lg3 ∧ lg3.data.length ≤ 1048576 ∧ lg3.power ≤ 9223372036854775807 ∧ Below w.heap.size w wr)
                  case atStart => exact ⟨0, lg2, rfl, rfl, hlg2, hrg2, hsz2, hlp2, hb2⟩
                  case round =>
                    obtain ⟨k, lg3, hgk, rfl, hlg3, hrg3, hsz3, hlp3, hb3⟩ := hrel
                    have HLG3 := Lib.hid hlg3
                    have HRG3 := Lib.hid hrg3
                    have HB3 := Lib.hid hb3
                    have HGK := Lib.hid hgk
                    obtain ⟨A15, c15, hr15, hc15, hc15', hy15⟩ := hlg3.data_
                    obtain ⟨A16, c16, hr16, hc16, hc16', hy16⟩ := hrg3.data_
                    have HR15 := Lib.hid hr15
                    have HR16 := Lib.hid hr16
                    have HY15 := Lib.hid hy15
                    have HY16 := Lib.hid hy16
                    have e0 : wr.cell? ⟨L, 0, none⟩ = some (.slice A15 lg3.data.length c15) := cell_of_row _ _ 0 _ _ _ hr15
                    have e1 : wr.cell? ⟨L, 1, none⟩ = some (.int .i64 lg3.power) := cell_of_row _ _ 1 _ _ _ hr15
                    have e2 : wr.cell? ⟨L, 2, none⟩ = some (.int .i64 lg3.count) := cell_of_row _ _ 2 _ _ _ hr15
                    have e3 : wr.cell? ⟨L, 3, none⟩ = some (.bool lg3.down) := cell_of_row _ _ 3 _ _ _ hr15
                    have hlL3 := row_lt hr15
                    have hlR3 := row_lt hr16
                    have hkn : k ≤ n' := by omega
                    clear hlg3 hrg3 hb3 hgk hr15 hr16 hy15 hy16 hlg2 hrg2 hb2
                    by_cases hlt2 : k < n'
                    · have i3 : (k : Int) < (n' : Int) := by omega
                      cases hdn : lg3.down with
                      | true =>
                        rw [hdn] at e3
                        go_wp2_with fail
                        go_roundg g1
                        case measure => exact HG1.out.1
                        case rel => exact ⟨i + 1, lg3, HG1.out.2, by go_num, HLG3.out, HRG3.out, hsz3, hlp3, HB3.out⟩
                      | false =>
                        rw [hdn] at e3
                        by_cases h2 : E2 = 0
                        · have j2 : (E2 == 0) = true := by simpa using h2
                          by_cases h1 : E1 = 0
                          · have j1 : (E1 == 0) = true := by simpa using h1
                            clear h1 h2
                            obtain ⟨x, b2, o2, A17, c17, hx, hAe2, hbB2, cx, hx1, hx2, bx⟩ := (HT.out.to HB3.out).at_ hlt2
                            subst hAe2
                            have hk0 : (0 : Int) ≤ (k : Int) := by omega
                            have HDN := Lib.hid hdn
                            clear hx hdn
                            by_cases h300 : 300 < x.length
                            · have i4 : (300 : Int) < (x.length : Int) := by omega
                              go_wp2_with fail
                              refine (awake_any _).mono ?_
                              rintro e w5 ⟨rfl, hb5⟩
                              go_wp2_with fail
                              go_ret
                              exact ⟨rfl, HB3.out.trans (hb5.mono HB3.out.size)⟩
                            · have i4 : ¬ (300 : Int) < (x.length : Int) := by omega
                              have HX := Lib.hid bx
                              have CPX := Lib.hid cx
                              have KEEP : Hid (∀ W', Below wr.heap.size wr W' → W'.cell? ⟨L, 0, none⟩ = some (.slice A15 lg3.data.length c15) ∧ W'.cell? ⟨L, 1, none⟩ = some (.int .i64 lg3.power) ∧ W'.cell? ⟨L, 2, none⟩ = some (.int .i64 lg3.count) ∧ W'.cell? ⟨L, 3, none⟩ = some (.bool false) ∧ W'.cell? ⟨b2, o2 + k, none⟩ = some (.slice A17 x.length c17)) :=
                                Lib.hid fun W' hW' => ⟨(hW'.cell (p := ⟨L, 0, none⟩) hlL3).trans e0, (hW'.cell (p := ⟨L, 1, none⟩) hlL3).trans e1, (hW'.cell (p := ⟨L, 2, none⟩) hlL3).trans e2, (hW'.cell (p := ⟨L, 3, none⟩) hlL3).trans e3, (hW'.cell (p := ⟨b2, o2 + k, none⟩) hbB2).trans CPX.out⟩
                              obtain ⟨r3, hr3⟩ : ∃ r3, addR lg3 x = r3 := ⟨_, rfl⟩
                              have hr3s := add_size (l := lg3) (x := x)
                              have hr3p := add_power (l := lg3) (x := x) hlp3 (by omega)
                              rw [hr3] at hr3s hr3p
                              have hl3 : (⟨lg3.data, lg3.power, lg3.count, false⟩ : Lg) = lg3 := by rw [← HDN.out]
                              have KR : Hid (∀ W', Below wr.heap.size wr W' → Calls Try.prog 19 #[.agg #[.slice A15 lg3.data.length c15, .int .i64 lg3.power, .int .i64 lg3.count, .bool false], .slice A17 x.length c17] W' (GivesLg W' r3)) :=
                                Lib.hid fun W' hW => by
                                  have := add_any A15 A17 lg3.data.length c15 x.length c17 lg3.power lg3.count false lg3.data x W' (HY15.out.to hW) (HX.out.to hW) (by omega) hc15 hc15' (by omega) hx1 hlp3
                                  rw [hl3, hr3] at this
                                  exact this
                              have KR2 : Hid (∀ W', Below wr.heap.size wr W' → Calls Try.prog 20 #[.agg #[.slice A16 lg3.data.length c16, .int .i64 lg3.power, .int .i64 lg3.count, .bool false], .slice A17 x.length c17] W' (GivesLg W' r3)) :=
                                Lib.hid fun W' hW => by
                                  have := refadd_any A16 A17 lg3.data.length c16 x.length c17 lg3.power lg3.count false lg3.data x W' (HY16.out.to hW) (HX.out.to hW) (by omega) hc16 hc16' (by omega) hlp3
                                  rw [hl3, hr3] at this
                                  exact this
                              clear bx hr3 hl3
                              go_upto_region 23 with (fail)
                              clear cx
                              go_cut [19, 20] from 102 to 157 (fun s19 s20 wc => LbAt 29 wr r3 s19 s20 wc)
                              case first =>
                                refine wp_region_held_drew (S := fun W' => W'.cell? ⟨L, 0, none⟩ = some (.slice A15 lg3.data.length c15) ∧ W'.cell? ⟨L, 1, none⟩ = some (.int .i64 lg3.power) ∧ W'.cell? ⟨L, 2, none⟩ = some (.int .i64 lg3.count) ∧ W'.cell? ⟨L, 3, none⟩ = some (.bool false) ∧ W'.cell? ⟨b2, o2 + k, none⟩ = some (.slice A17 x.length c17)) (by kernel_rfl) (KEEP.out _ (by go_grown)) (fun hS => ?_)
                                have hb : Below wr.heap.size wr wr.drew := by go_grown
                                clear e0 e1 e2 e3
                                refine wpAnyH_take (i := 0) (oi := ⟨some 129, _, _, _, _, _⟩) (v := ?_) rfl (by kernel_rfl) (by kernel_rfl) (by kernel_rfl) (fun _ _ _ h => h) (Or.inl ⟨by rfl, ?_⟩) hS ?_
                                rotate_left
                                · (intro _ hW; obtain ⟨hW0, hW1, hW2, hW3, hW4⟩ := hW; go_simp; try (with_reducible rfl))
                                try simp only [Act.put, List.setIfInBounds_toArray, List.set_cons_zero, List.set_cons_succ]
                                refine wpAnyH_take (i := 1) (oi := ⟨some 130, _, _, _, _, _⟩) (v := ?_) rfl (by kernel_rfl) (by kernel_rfl) (by kernel_rfl) (fun _ _ _ h => h) (Or.inl ⟨by rfl, ?_⟩) hS ?_
                                rotate_left
                                · (intro _ hW; obtain ⟨hW0, hW1, hW2, hW3, hW4⟩ := hW; go_simp; try (with_reducible rfl))
                                try simp only [Act.put, List.setIfInBounds_toArray, List.set_cons_zero, List.set_cons_succ]
                                refine wpAnyH_take (i := 2) (oi := ⟨some 131, _, _, _, _, _⟩) (v := ?_) rfl (by kernel_rfl) (by kernel_rfl) (by kernel_rfl) (fun _ _ _ h => h) (Or.inl ⟨by rfl, ?_⟩) hS ?_
                                rotate_left
                                · (intro _ hW; obtain ⟨hW0, hW1, hW2, hW3, hW4⟩ := hW; go_simp; try (with_reducible rfl))
                                try simp only [Act.put, List.setIfInBounds_toArray, List.set_cons_zero, List.set_cons_succ]
                                refine wpAnyH_take (i := 3) (oi := ⟨some 132, _, _, _, _, _⟩) (v := ?_) rfl (by kernel_rfl) (by kernel_rfl) (by kernel_rfl) (fun _ _ _ h => h) (Or.inl ⟨by rfl, ?_⟩) hS ?_
                                rotate_left
                                · (intro _ hW; obtain ⟨hW0, hW1, hW2, hW3, hW4⟩ := hW; go_simp; try (with_reducible rfl))
                                try simp only [Act.put, List.setIfInBounds_toArray, List.set_cons_zero, List.set_cons_succ]
                                refine wpAnyH_take (i := 4) (oi := ⟨some 133, _, _, _, _, _⟩) (v := ?_) rfl (by kernel_rfl) (by kernel_rfl) (by kernel_rfl) (fun _ _ _ h => h) (Or.inl ⟨by rfl, ?_⟩) hS ?_
                                rotate_left
                                · (intro _ hW; obtain ⟨hW0, hW1, hW2, hW3, hW4⟩ := hW; go_simp; try (with_reducible rfl))
                                try simp only [Act.put, List.setIfInBounds_toArray, List.set_cons_zero, List.set_cons_succ]
                                refine wpAnyH_ready (rs := [5, 9]) (by kernel_rfl) (by simp) ?_
                                refine AllReadyH.cons rfl (fun K hK => ?_) (AllReadyH.cons rfl (fun K hK => ?_) AllReadyH.nil)
                                · go_simp
                                  go_at_call 19
                                  (with_reducible refine (KR.out _ hb).mono ?_)
                                  rintro e w4 ⟨A4, c4, rfl, hoW, hb4⟩
                                  try replace hTr := (hb4.block _ (row_lt hTr)).trans hTr
                                  replace hb := hb.trans (hb4.mono hb.size)
                                  have hs4 := hb.size
                                  replace hoW := own_more (base' := wr.heap.size) hoW (by first | omega | (simp; done) | (simp; omega))
                                  refine hK.out _ _ ?_ (fun hS => ?_)
                                  · exact KEEP.out _ (by first | exact hb | go_grown)
                                  clear hK K
                                  try simp only [Act.put, List.setIfInBounds_toArray, List.set_cons_zero, List.set_cons_succ]
                                  refine wpAnyH_take (i := 6) (oi := ⟨some 128, _, _, _, _, _⟩) (v := ?_) rfl (by kernel_rfl) (by kernel_rfl) (by kernel_rfl) (fun _ _ _ h => h) (Or.inl ⟨by rfl, ?_⟩) hS ?_
                                  rotate_left
                                  · (intro _ hW; obtain ⟨hW0, hW1, hW2, hW3, hW4⟩ := hW; go_simp; try (with_reducible rfl))
                                  try simp only [Act.put, List.setIfInBounds_toArray, List.set_cons_zero, List.set_cons_succ]
                                  refine wpAnyH_take (i := 7) (oi := ⟨some 135, _, _, _, _, _⟩) (v := ?_) rfl (by kernel_rfl) (by kernel_rfl) (by kernel_rfl) (fun _ _ _ h => h) (Or.inl ⟨by rfl, ?_⟩) hS ?_
                                  rotate_left
                                  · (intro _ hW; obtain ⟨hW0, hW1, hW2, hW3, hW4⟩ := hW; go_simp; try (with_reducible rfl))
                                  try simp only [Act.put, List.setIfInBounds_toArray, List.set_cons_zero, List.set_cons_succ]
                                  refine wpAnyH_take (i := 8) (oi := ⟨some 136, _, _, _, _, _⟩) (v := ?_) rfl (by kernel_rfl) (by kernel_rfl) (by kernel_rfl) (fun _ _ _ h => h) (Or.inl ⟨by rfl, ?_⟩) hS ?_
                                  rotate_left
                                  · (intro _ hW; obtain ⟨hW0, hW1, hW2, hW3, hW4⟩ := hW; go_simp; try (with_reducible rfl))
                                  try simp only [Act.put, List.setIfInBounds_toArray, List.set_cons_zero, List.set_cons_succ]
                                  refine wpAnyH_ready (rs := [9]) (by kernel_rfl) (by simp) ?_
                                  refine AllReadyH.cons rfl (fun K hK => ?_) AllReadyH.nil
                                  go_simp
                                  have hTr := (heap_at (w := w4) (o := .cells #[.slice none 0 0, .int .i64 0, .int .i64 0, .bool false] 29) rfl)
                                  have hTl : wr.heap.size ≤ (w4).heap.size := (by first | omega | (simp; done) | (simp; omega))
                                  replace hb := hb.alloc (by first | omega | (simp; done) | (simp; omega)) (.cells #[.slice none 0 0, .int .i64 0, .int .i64 0, .bool false] 29)
                                  try replace hoW := hoW.alloc (.cells #[.slice none 0 0, .int .i64 0, .int .i64 0, .bool false] 29)
                                  refine hK.out _ _ ?_ (fun hS => ?_)
                                  · exact KEEP.out _ (by first | exact hb | go_grown)
                                  clear hK K
                                  try simp only [Act.put, List.setIfInBounds_toArray, List.set_cons_zero, List.set_cons_succ]
                                  obtain ⟨wX, hwX⟩ : ∃ wX, wX = w4.alloc (.cells #[.slice none 0 0, .int .i64 0, .int .i64 0, .bool false] 29) := ⟨_, rfl⟩
                                  rw [← hwX]
                                  obtain ⟨T, hT⟩ : ∃ T, T = w4.heap.size := ⟨_, rfl⟩
                                  rw [← hT]
                                  replace hTr : wX.heap[T]? = some (.cells #[.slice none 0 0, .int .i64 0, .int .i64 0, .bool false] 29 (0, 0)) := by rw [hwX, hT]; exact hTr
                                  replace hTl : wr.heap.size ≤ T := by rw [hT]; exact hTl
                                  replace hb : Below wr.heap.size wr wX := by rw [hwX]; exact hb
                                  replace hoW : wX.ownsRow wr.heap.size 5 1 (.slice A4 r3.1.data.length c4) r3.1.data.length (bys r3.1.data) := by rw [hwX]; exact hoW
                                  have t0 := cell_of_row _ _ 0 _ _ _ hTr
                                  have t1 := cell_of_row _ _ 1 _ _ _ hTr
                                  have t2 := cell_of_row _ _ 2 _ _ _ hTr
                                  have t3 := cell_of_row _ _ 3 _ _ _ hTr
                                  have tf0 := frozen_of_row _ _ 0 _ _ hTr
                                  have tf1 := frozen_of_row _ _ 1 _ _ hTr
                                  have tf2 := frozen_of_row _ _ 2 _ _ hTr
                                  have tf3 := frozen_of_row _ _ 3 _ _ hTr
                                  have tl := row_lt hTr
                                  have HTR := Lib.hid hTr
                                  have HOW := Lib.hid hoW
                                  have HBX := Lib.hid hb
                                  clear hT hwX hTr hoW
                                  refine wpAnyH_ready (rs := [10]) (by kernel_rfl) (by simp) ?_
                                  refine AllReadyH.cons rfl (fun K hK => ?_) AllReadyH.nil
                                  go_simp
                                  refine hK.out _ _ (KEEP.out _ ((((hb.setCell (by dsimp only; omega) _).setCell (by dsimp only; omega) _).setCell (by dsimp only; omega) _).setCell (by dsimp only; omega) _)) (fun hS => ?_)
                                  clear hK K
                                  try simp only [Act.put, List.setIfInBounds_toArray, List.set_cons_zero, List.set_cons_succ]
                                  refine wpAnyH_take (i := 11) (oi := ⟨some 20, _, _, _, _, _⟩) (v := ?_) rfl (by kernel_rfl) (by kernel_rfl) (by kernel_rfl) (fun _ _ _ h => h) (Or.inl ⟨by rfl, ?_⟩) hS ?_
                                  rotate_left
                                  · (intro _ hW; obtain ⟨hW0, hW1, hW2, hW3, hW4⟩ := hW; go_simp; try (with_reducible rfl))
                                  try simp only [Act.put, List.setIfInBounds_toArray, List.set_cons_zero, List.set_cons_succ]
                                  refine wpAnyH_done (by kernel_rfl) ?_ _
                                  clear hS t0 t1 t2 t3 tf0 tf1 tf2 tf3 tl
                                  go_wp2_with fail
                                  go_meet
                                  case rel =>
                                    have hne : ∀ k, (Value.slice A4 r3.1.data.length c4).ownBlock = some k → k ≠ T := fun k hk e => row_ne HTR.out HOW.out (by decide) (hk.trans (congrArg some e))
                                    exact ⟨T, A4, c4, rfl, rfl, at_set4 HTR.out _ _ _ _, own_set (own_set (own_set (own_set HOW.out hne _) hne _) hne _) hne _, below_set4 HBX.out hTl _ _ _ _, hTl⟩
                                · go_simp
                                  have hTr := (heap_at (w := wr) (o := .cells #[.slice none 0 0, .int .i64 0, .int .i64 0, .bool false] 29) rfl)
                                  have hTl : wr.heap.size ≤ (wr).heap.size := (by first | omega | (simp; done) | (simp; omega))
                                  replace hb := hb.alloc (by first | omega | (simp; done) | (simp; omega)) (.cells #[.slice none 0 0, .int .i64 0, .int .i64 0, .bool false] 29)
                                  try replace hoW := hoW.alloc (.cells #[.slice none 0 0, .int .i64 0, .int .i64 0, .bool false] 29)
                                  refine hK.out _ _ ?_ (fun hS => ?_)
                                  · exact KEEP.out _ (by first | exact hb | go_grown)
                                  clear hK K
                                  try simp only [Act.put, List.setIfInBounds_toArray, List.set_cons_zero, List.set_cons_succ]
                                  replace hb : Below wr.heap.size wr (wr.alloc (.cells #[.slice none 0 0, .int .i64 0, .int .i64 0, .bool false] 29)).drew := by go_grown
                                  refine wpAnyH_ready (rs := [5]) (by kernel_rfl) (by simp) ?_
                                  refine AllReadyH.cons rfl (fun K hK => ?_) AllReadyH.nil
                                  go_simp
                                  go_at_call 19
                                  (with_reducible refine (KR.out _ hb).mono ?_)
                                  rintro e w4 ⟨A4, c4, rfl, hoW, hb4⟩
                                  try replace hTr := (hb4.block _ (row_lt hTr)).trans hTr
                                  replace hb := hb.trans (hb4.mono hb.size)
                                  have hs4 := hb.size
                                  replace hoW := own_more (base' := wr.heap.size) hoW (by first | omega | (simp; done) | (simp; omega))
                                  refine hK.out _ _ ?_ (fun hS => ?_)
                                  · exact KEEP.out _ (by first | exact hb | go_grown)
                                  clear hK K
                                  try simp only [Act.put, List.setIfInBounds_toArray, List.set_cons_zero, List.set_cons_succ]
                                  refine wpAnyH_take (i := 6) (oi := ⟨some 128, _, _, _, _, _⟩) (v := ?_) rfl (by kernel_rfl) (by kernel_rfl) (by kernel_rfl) (fun _ _ _ h => h) (Or.inl ⟨by rfl, ?_⟩) hS ?_
                                  rotate_left
                                  · (intro _ hW; obtain ⟨hW0, hW1, hW2, hW3, hW4⟩ := hW; go_simp; try (with_reducible rfl))
                                  try simp only [Act.put, List.setIfInBounds_toArray, List.set_cons_zero, List.set_cons_succ]
                                  refine wpAnyH_take (i := 7) (oi := ⟨some 135, _, _, _, _, _⟩) (v := ?_) rfl (by kernel_rfl) (by kernel_rfl) (by kernel_rfl) (fun _ _ _ h => h) (Or.inl ⟨by rfl, ?_⟩) hS ?_
                                  rotate_left
                                  · (intro _ hW; obtain ⟨hW0, hW1, hW2, hW3, hW4⟩ := hW; go_simp; try (with_reducible rfl))
                                  try simp only [Act.put, List.setIfInBounds_toArray, List.set_cons_zero, List.set_cons_succ]
                                  refine wpAnyH_take (i := 8) (oi := ⟨some 136, _, _, _, _, _⟩) (v := ?_) rfl (by kernel_rfl) (by kernel_rfl) (by kernel_rfl) (fun _ _ _ h => h) (Or.inl ⟨by rfl, ?_⟩) hS ?_
                                  rotate_left
                                  · (intro _ hW; obtain ⟨hW0, hW1, hW2, hW3, hW4⟩ := hW; go_simp; try (with_reducible rfl))
                                  try simp only [Act.put, List.setIfInBounds_toArray, List.set_cons_zero, List.set_cons_succ]
                                  obtain ⟨wX, hwX⟩ : ∃ wX, wX = w4 := ⟨_, rfl⟩
                                  rw [← hwX]
                                  obtain ⟨T, hT⟩ : ∃ T, T = wr.heap.size := ⟨_, rfl⟩
                                  rw [← hT]
                                  replace hTr : wX.heap[T]? = some (.cells #[.slice none 0 0, .int .i64 0, .int .i64 0, .bool false] 29 (0, 0)) := by rw [hwX, hT]; exact hTr
                                  replace hTl : wr.heap.size ≤ T := by rw [hT]; exact hTl
                                  replace hb : Below wr.heap.size wr wX := by rw [hwX]; exact hb
                                  replace hoW : wX.ownsRow wr.heap.size 5 1 (.slice A4 r3.1.data.length c4) r3.1.data.length (bys r3.1.data) := by rw [hwX]; exact hoW
                                  have t0 := cell_of_row _ _ 0 _ _ _ hTr
                                  have t1 := cell_of_row _ _ 1 _ _ _ hTr
                                  have t2 := cell_of_row _ _ 2 _ _ _ hTr
                                  have t3 := cell_of_row _ _ 3 _ _ _ hTr
                                  have tf0 := frozen_of_row _ _ 0 _ _ hTr
                                  have tf1 := frozen_of_row _ _ 1 _ _ hTr
                                  have tf2 := frozen_of_row _ _ 2 _ _ hTr
                                  have tf3 := frozen_of_row _ _ 3 _ _ hTr
                                  have tl := row_lt hTr
                                  have HTR := Lib.hid hTr
                                  have HOW := Lib.hid hoW
                                  have HBX := Lib.hid hb
                                  clear hT hwX hTr hoW
                                  refine wpAnyH_ready (rs := [10]) (by kernel_rfl) (by simp) ?_
                                  refine AllReadyH.cons rfl (fun K hK => ?_) AllReadyH.nil
                                  go_simp
                                  refine hK.out _ _ (KEEP.out _ ((((hb.setCell (by dsimp only; omega) _).setCell (by dsimp only; omega) _).setCell (by dsimp only; omega) _).setCell (by dsimp only; omega) _)) (fun hS => ?_)
                                  clear hK K
                                  try simp only [Act.put, List.setIfInBounds_toArray, List.set_cons_zero, List.set_cons_succ]
                                  refine wpAnyH_take (i := 11) (oi := ⟨some 20, _, _, _, _, _⟩) (v := ?_) rfl (by kernel_rfl) (by kernel_rfl) (by kernel_rfl) (fun _ _ _ h => h) (Or.inl ⟨by rfl, ?_⟩) hS ?_
                                  rotate_left
                                  · (intro _ hW; obtain ⟨hW0, hW1, hW2, hW3, hW4⟩ := hW; go_simp; try (with_reducible rfl))
                                  try simp only [Act.put, List.setIfInBounds_toArray, List.set_cons_zero, List.set_cons_succ]
                                  refine wpAnyH_done (by kernel_rfl) ?_ _
                                  clear hS t0 t1 t2 t3 tf0 tf1 tf2 tf3 tl
                                  go_wp2_with fail
                                  go_meet
                                  case rel =>
                                    have hne : ∀ k, (Value.slice A4 r3.1.data.length c4).ownBlock = some k → k ≠ T := fun k hk e => row_ne HTR.out HOW.out (by decide) (hk.trans (congrArg some e))
                                    exact ⟨T, A4, c4, rfl, rfl, at_set4 HTR.out _ _ _ _, own_set (own_set (own_set (own_set HOW.out hne _) hne _) hne _) hne _, below_set4 HBX.out hTl _ _ _ _, hTl⟩
                              case rest =>
                                obtain ⟨T3, A18, c18, rfl, rfl, hr18, ho18, hb18, ht3⟩ := hcut
                                have HB18 := Lib.hid hb18
                                have HO18 := Lib.hid ho18
                                have HR18 := Lib.hid hr18
                                have hs18 := hb18.size
                                have hr16 := (hb18.block R hlR3).trans HR16.out
                                have e0 : wc.cell? ⟨R, 0, none⟩ = some (.slice A16 lg3.data.length c16) := cell_of_row _ _ 0 _ _ _ hr16
                                have e1 : wc.cell? ⟨R, 1, none⟩ = some (.int .i64 lg3.power) := cell_of_row _ _ 1 _ _ _ hr16
                                have e2 : wc.cell? ⟨R, 2, none⟩ = some (.int .i64 lg3.count) := cell_of_row _ _ 2 _ _ _ hr16
                                have e3 : wc.cell? ⟨R, 3, none⟩ = some (.bool lg3.down) := cell_of_row _ _ 3 _ _ _ hr16
                                rw [HDN.out] at e3
                                have hpx := (KEEP.out wc hb18).2.2.2.2
                                have hlR7 := Nat.lt_of_lt_of_le hlR3 hs18
                                have hbB7 := Nat.lt_of_lt_of_le hbB2 hs18
                                replace KEEP : Hid (∀ W', Below wc.heap.size wc W' → W'.cell? ⟨R, 0, none⟩ = some (.slice A16 lg3.data.length c16) ∧ W'.cell? ⟨R, 1, none⟩ = some (.int .i64 lg3.power) ∧ W'.cell? ⟨R, 2, none⟩ = some (.int .i64 lg3.count) ∧ W'.cell? ⟨R, 3, none⟩ = some (.bool false) ∧ W'.cell? ⟨b2, o2 + k, none⟩ = some (.slice A17 x.length c17)) :=
                                  Lib.hid fun W' hW' => ⟨(hW'.cell (p := ⟨R, 0, none⟩) hlR7).trans e0, (hW'.cell (p := ⟨R, 1, none⟩) hlR7).trans e1, (hW'.cell (p := ⟨R, 2, none⟩) hlR7).trans e2, (hW'.cell (p := ⟨R, 3, none⟩) hlR7).trans e3, (hW'.cell (p := ⟨b2, o2 + k, none⟩) hbB7).trans hpx⟩
                                replace KR : Hid (∀ W', Below wc.heap.size wc W' → Calls Try.prog 20 #[.agg #[.slice A16 lg3.data.length c16, .int .i64 lg3.power, .int .i64 lg3.count, .bool false], .slice A17 x.length c17] W' (GivesLg W' r3)) := Lib.hid fun W' hW => KR2.out W' (after HB18.out hW)
                                clear hr16 hb18 ho18 hr18 hpx KR2
                                generalize wc = wd at *
                                go_upto_region 24 with (fail)
                                go_cut [21, 22] from 102 to 157 (fun s21 s22 wc => LbAt 32 wd r3 s21 s22 wc)
                                case first =>
                                  refine wp_region_held_drew (S := fun W' => W'.cell? ⟨R, 0, none⟩ = some (.slice A16 lg3.data.length c16) ∧ W'.cell? ⟨R, 1, none⟩ = some (.int .i64 lg3.power) ∧ W'.cell? ⟨R, 2, none⟩ = some (.int .i64 lg3.count) ∧ W'.cell? ⟨R, 3, none⟩ = some (.bool false) ∧ W'.cell? ⟨b2, o2 + k, none⟩ = some (.slice A17 x.length c17)) (by kernel_rfl) (KEEP.out _ (by go_grown)) (fun hS => ?_)
                                  have hb : Below wd.heap.size wd wd.drew := by go_grown
                                  clear e0 e1 e2 e3
                                  refine wpAnyH_take (i := 0) (oi := ⟨some 138, _, _, _, _, _⟩) (v := ?_) rfl (by kernel_rfl) (by kernel_rfl) (by kernel_rfl) (fun _ _ _ h => h) (Or.inl ⟨by rfl, ?_⟩) hS ?_
                                  rotate_left
                                  · (intro _ hW; obtain ⟨hW0, hW1, hW2, hW3, hW4⟩ := hW; go_simp; try (with_reducible rfl))
                                  try simp only [Act.put, List.setIfInBounds_toArray, List.set_cons_zero, List.set_cons_succ]
                                  refine wpAnyH_take (i := 1) (oi := ⟨some 139, _, _, _, _, _⟩) (v := ?_) rfl (by kernel_rfl) (by kernel_rfl) (by kernel_rfl) (fun _ _ _ h => h) (Or.inl ⟨by rfl, ?_⟩) hS ?_
                                  rotate_left
                                  · (intro _ hW; obtain ⟨hW0, hW1, hW2, hW3, hW4⟩ := hW; go_simp; try (with_reducible rfl))
                                  try simp only [Act.put, List.setIfInBounds_toArray, List.set_cons_zero, List.set_cons_succ]
                                  refine wpAnyH_take (i := 2) (oi := ⟨some 140, _, _, _, _, _⟩) (v := ?_) rfl (by kernel_rfl) (by kernel_rfl) (by kernel_rfl) (fun _ _ _ h => h) (Or.inl ⟨by rfl, ?_⟩) hS ?_
                                  rotate_left
                                  · (intro _ hW; obtain ⟨hW0, hW1, hW2, hW3, hW4⟩ := hW; go_simp; try (with_reducible rfl))
                                  try simp only [Act.put, List.setIfInBounds_toArray, List.set_cons_zero, List.set_cons_succ]
                                  refine wpAnyH_take (i := 3) (oi := ⟨some 141, _, _, _, _, _⟩) (v := ?_) rfl (by kernel_rfl) (by kernel_rfl) (by kernel_rfl) (fun _ _ _ h => h) (Or.inl ⟨by rfl, ?_⟩) hS ?_
                                  rotate_left
                                  · (intro _ hW; obtain ⟨hW0, hW1, hW2, hW3, hW4⟩ := hW; go_simp; try (with_reducible rfl))
                                  try simp only [Act.put, List.setIfInBounds_toArray, List.set_cons_zero, List.set_cons_succ]
                                  refine wpAnyH_take (i := 4) (oi := ⟨some 142, _, _, _, _, _⟩) (v := ?_) rfl (by kernel_rfl) (by kernel_rfl) (by kernel_rfl) (fun _ _ _ h => h) (Or.inl ⟨by rfl, ?_⟩) hS ?_
                                  rotate_left
                                  · (intro _ hW; obtain ⟨hW0, hW1, hW2, hW3, hW4⟩ := hW; go_simp; try (with_reducible rfl))
                                  try simp only [Act.put, List.setIfInBounds_toArray, List.set_cons_zero, List.set_cons_succ]
                                  refine wpAnyH_ready (rs := [5, 9]) (by kernel_rfl) (by simp) ?_
                                  refine AllReadyH.cons rfl (fun K hK => ?_) (AllReadyH.cons rfl (fun K hK => ?_) AllReadyH.nil)
                                  · go_simp
                                    go_at_call 20
                                    (with_reducible refine (KR.out _ hb).mono ?_)
                                    rintro e w4 ⟨A4, c4, rfl, hoW, hb4⟩
                                    try replace hTr := (hb4.block _ (row_lt hTr)).trans hTr
                                    replace hb := hb.trans (hb4.mono hb.size)
                                    have hs4 := hb.size
                                    replace hoW := own_more (base' := wd.heap.size) hoW (by first | omega | (simp; done) | (simp; omega))
                                    refine hK.out _ _ ?_ (fun hS => ?_)
                                    · exact KEEP.out _ (by first | exact hb | go_grown)
                                    clear hK K
                                    try simp only [Act.put, List.setIfInBounds_toArray, List.set_cons_zero, List.set_cons_succ]
                                    refine wpAnyH_take (i := 6) (oi := ⟨some 137, _, _, _, _, _⟩) (v := ?_) rfl (by kernel_rfl) (by kernel_rfl) (by kernel_rfl) (fun _ _ _ h => h) (Or.inl ⟨by rfl, ?_⟩) hS ?_
                                    rotate_left
                                    · (intro _ hW; obtain ⟨hW0, hW1, hW2, hW3, hW4⟩ := hW; go_simp; try (with_reducible rfl))
                                    try simp only [Act.put, List.setIfInBounds_toArray, List.set_cons_zero, List.set_cons_succ]
                                    refine wpAnyH_take (i := 7) (oi := ⟨some 144, _, _, _, _, _⟩) (v := ?_) rfl (by kernel_rfl) (by kernel_rfl) (by kernel_rfl) (fun _ _ _ h => h) (Or.inl ⟨by rfl, ?_⟩) hS ?_
                                    rotate_left
                                    · (intro _ hW; obtain ⟨hW0, hW1, hW2, hW3, hW4⟩ := hW; go_simp; try (with_reducible rfl))
                                    try simp only [Act.put, List.setIfInBounds_toArray, List.set_cons_zero, List.set_cons_succ]
                                    refine wpAnyH_take (i := 8) (oi := ⟨some 145, _, _, _, _, _⟩) (v := ?_) rfl (by kernel_rfl) (by kernel_rfl) (by kernel_rfl) (fun _ _ _ h => h) (Or.inl ⟨by rfl, ?_⟩) hS ?_
                                    rotate_left
                                    · (intro _ hW; obtain ⟨hW0, hW1, hW2, hW3, hW4⟩ := hW; go_simp; try (with_reducible rfl))
                                    try simp only [Act.put, List.setIfInBounds_toArray, List.set_cons_zero, List.set_cons_succ]
                                    refine wpAnyH_ready (rs := [9]) (by kernel_rfl) (by simp) ?_
                                    refine AllReadyH.cons rfl (fun K hK => ?_) AllReadyH.nil
                                    go_simp
                                    have hTr := (heap_at (w := w4) (o := .cells #[.slice none 0 0, .int .i64 0, .int .i64 0, .bool false] 32) rfl)
                                    have hTl : wd.heap.size ≤ (w4).heap.size := (by first | omega | (simp; done) | (simp; omega))
                                    replace hb := hb.alloc (by first | omega | (simp; done) | (simp; omega)) (.cells #[.slice none 0 0, .int .i64 0, .int .i64 0, .bool false] 32)
                                    try replace hoW := hoW.alloc (.cells #[.slice none 0 0, .int .i64 0, .int .i64 0, .bool false] 32)
                                    refine hK.out _ _ ?_ (fun hS => ?_)
                                    · exact KEEP.out _ (by first | exact hb | go_grown)
                                    clear hK K
                                    try simp only [Act.put, List.setIfInBounds_toArray, List.set_cons_zero, List.set_cons_succ]
                                    obtain ⟨wX, hwX⟩ : ∃ wX, wX = w4.alloc (.cells #[.slice none 0 0, .int .i64 0, .int .i64 0, .bool false] 32) := ⟨_, rfl⟩
                                    rw [← hwX]
                                    obtain ⟨T, hT⟩ : ∃ T, T = w4.heap.size := ⟨_, rfl⟩
                                    rw [← hT]
                                    replace hTr : wX.heap[T]? = some (.cells #[.slice none 0 0, .int .i64 0, .int .i64 0, .bool false] 32 (0, 0)) := by rw [hwX, hT]; exact hTr
                                    replace hTl : wd.heap.size ≤ T := by rw [hT]; exact hTl
                                    replace hb : Below wd.heap.size wd wX := by rw [hwX]; exact hb
                                    replace hoW : wX.ownsRow wd.heap.size 5 1 (.slice A4 r3.1.data.length c4) r3.1.data.length (bys r3.1.data) := by rw [hwX]; exact hoW
                                    have t0 := cell_of_row _ _ 0 _ _ _ hTr
                                    have t1 := cell_of_row _ _ 1 _ _ _ hTr
                                    have t2 := cell_of_row _ _ 2 _ _ _ hTr
                                    have t3 := cell_of_row _ _ 3 _ _ _ hTr
                                    have tf0 := frozen_of_row _ _ 0 _ _ hTr
                                    have tf1 := frozen_of_row _ _ 1 _ _ hTr
                                    have tf2 := frozen_of_row _ _ 2 _ _ hTr
                                    have tf3 := frozen_of_row _ _ 3 _ _ hTr
                                    have tl := row_lt hTr
                                    have HTR := Lib.hid hTr
                                    have HOW := Lib.hid hoW
                                    have HBX := Lib.hid hb
                                    clear hT hwX hTr hoW
                                    refine wpAnyH_ready (rs := [10]) (by kernel_rfl) (by simp) ?_
                                    refine AllReadyH.cons rfl (fun K hK => ?_) AllReadyH.nil
                                    go_simp
                                    refine hK.out _ _ (KEEP.out _ ((((hb.setCell (by dsimp only; omega) _).setCell (by dsimp only; omega) _).setCell (by dsimp only; omega) _).setCell (by dsimp only; omega) _)) (fun hS => ?_)
                                    clear hK K
                                    try simp only [Act.put, List.setIfInBounds_toArray, List.set_cons_zero, List.set_cons_succ]
                                    refine wpAnyH_take (i := 11) (oi := ⟨some 22, _, _, _, _, _⟩) (v := ?_) rfl (by kernel_rfl) (by kernel_rfl) (by kernel_rfl) (fun _ _ _ h => h) (Or.inl ⟨by rfl, ?_⟩) hS ?_
                                    rotate_left
                                    · (intro _ hW; obtain ⟨hW0, hW1, hW2, hW3, hW4⟩ := hW; go_simp; try (with_reducible rfl))
                                    try simp only [Act.put, List.setIfInBounds_toArray, List.set_cons_zero, List.set_cons_succ]
                                    refine wpAnyH_done (by kernel_rfl) ?_ _
                                    clear hS t0 t1 t2 t3 tf0 tf1 tf2 tf3 tl
                                    go_wp2_with fail
                                    go_meet
                                    case rel =>
                                      have hne : ∀ k, (Value.slice A4 r3.1.data.length c4).ownBlock = some k → k ≠ T := fun k hk e => row_ne HTR.out HOW.out (by decide) (hk.trans (congrArg some e))
                                      exact ⟨T, A4, c4, rfl, rfl, at_set4 HTR.out _ _ _ _, own_set (own_set (own_set (own_set HOW.out hne _) hne _) hne _) hne _, below_set4 HBX.out hTl _ _ _ _, hTl⟩
                                  · go_simp
                                    have hTr := (heap_at (w := wd) (o := .cells #[.slice none 0 0, .int .i64 0, .int .i64 0, .bool false] 32) rfl)
                                    have hTl : wd.heap.size ≤ (wd).heap.size := (by first | omega | (simp; done) | (simp; omega))
                                    replace hb := hb.alloc (by first | omega | (simp; done) | (simp; omega)) (.cells #[.slice none 0 0, .int .i64 0, .int .i64 0, .bool false] 32)
                                    try replace hoW := hoW.alloc (.cells #[.slice none 0 0, .int .i64 0, .int .i64 0, .bool false] 32)
                                    refine hK.out _ _ ?_ (fun hS => ?_)
                                    · exact KEEP.out _ (by first | exact hb | go_grown)
                                    clear hK K
                                    try simp only [Act.put, List.setIfInBounds_toArray, List.set_cons_zero, List.set_cons_succ]
                                    replace hb : Below wd.heap.size wd (wd.alloc (.cells #[.slice none 0 0, .int .i64 0, .int .i64 0, .bool false] 32)).drew := by go_grown
                                    refine wpAnyH_ready (rs := [5]) (by kernel_rfl) (by simp) ?_
                                    refine AllReadyH.cons rfl (fun K hK => ?_) AllReadyH.nil
                                    go_simp
                                    go_at_call 20
                                    (with_reducible refine (KR.out _ hb).mono ?_)
                                    rintro e w4 ⟨A4, c4, rfl, hoW, hb4⟩
                                    try replace hTr := (hb4.block _ (row_lt hTr)).trans hTr
                                    replace hb := hb.trans (hb4.mono hb.size)
                                    have hs4 := hb.size
                                    replace hoW := own_more (base' := wd.heap.size) hoW (by first | omega | (simp; done) | (simp; omega))
                                    refine hK.out _ _ ?_ (fun hS => ?_)
                                    · exact KEEP.out _ (by first | exact hb | go_grown)
                                    clear hK K
                                    try simp only [Act.put, List.setIfInBounds_toArray, List.set_cons_zero, List.set_cons_succ]
                                    refine wpAnyH_take (i := 6) (oi := ⟨some 137, _, _, _, _, _⟩) (v := ?_) rfl (by kernel_rfl) (by kernel_rfl) (by kernel_rfl) (fun _ _ _ h => h) (Or.inl ⟨by rfl, ?_⟩) hS ?_
                                    rotate_left
                                    · (intro _ hW; obtain ⟨hW0, hW1, hW2, hW3, hW4⟩ := hW; go_simp; try (with_reducible rfl))
                                    try simp only [Act.put, List.setIfInBounds_toArray, List.set_cons_zero, List.set_cons_succ]
                                    refine wpAnyH_take (i := 7) (oi := ⟨some 144, _, _, _, _, _⟩) (v := ?_) rfl (by kernel_rfl) (by kernel_rfl) (by kernel_rfl) (fun _ _ _ h => h) (Or.inl ⟨by rfl, ?_⟩) hS ?_
                                    rotate_left
                                    · (intro _ hW; obtain ⟨hW0, hW1, hW2, hW3, hW4⟩ := hW; go_simp; try (with_reducible rfl))
                                    try simp only [Act.put, List.setIfInBounds_toArray, List.set_cons_zero, List.set_cons_succ]
                                    refine wpAnyH_take (i := 8) (oi := ⟨some 145, _, _, _, _, _⟩) (v := ?_) rfl (by kernel_rfl) (by kernel_rfl) (by kernel_rfl) (fun _ _ _ h => h) (Or.inl ⟨by rfl, ?_⟩) hS ?_
                                    rotate_left
                                    · (intro _ hW; obtain ⟨hW0, hW1, hW2, hW3, hW4⟩ := hW; go_simp; try (with_reducible rfl))
                                    try simp only [Act.put, List.setIfInBounds_toArray, List.set_cons_zero, List.set_cons_succ]
                                    obtain ⟨wX, hwX⟩ : ∃ wX, wX = w4 := ⟨_, rfl⟩
                                    rw [← hwX]
                                    obtain ⟨T, hT⟩ : ∃ T, T = wd.heap.size := ⟨_, rfl⟩
                                    rw [← hT]
                                    replace hTr : wX.heap[T]? = some (.cells #[.slice none 0 0, .int .i64 0, .int .i64 0, .bool false] 32 (0, 0)) := by rw [hwX, hT]; exact hTr
                                    replace hTl : wd.heap.size ≤ T := by rw [hT]; exact hTl
                                    replace hb : Below wd.heap.size wd wX := by rw [hwX]; exact hb
                                    replace hoW : wX.ownsRow wd.heap.size 5 1 (.slice A4 r3.1.data.length c4) r3.1.data.length (bys r3.1.data) := by rw [hwX]; exact hoW
                                    have t0 := cell_of_row _ _ 0 _ _ _ hTr
                                    have t1 := cell_of_row _ _ 1 _ _ _ hTr
                                    have t2 := cell_of_row _ _ 2 _ _ _ hTr
                                    have t3 := cell_of_row _ _ 3 _ _ _ hTr
                                    have tf0 := frozen_of_row _ _ 0 _ _ hTr
                                    have tf1 := frozen_of_row _ _ 1 _ _ hTr
                                    have tf2 := frozen_of_row _ _ 2 _ _ hTr
                                    have tf3 := frozen_of_row _ _ 3 _ _ hTr
                                    have tl := row_lt hTr
                                    have HTR := Lib.hid hTr
                                    have HOW := Lib.hid hoW
                                    have HBX := Lib.hid hb
                                    clear hT hwX hTr hoW
                                    refine wpAnyH_ready (rs := [10]) (by kernel_rfl) (by simp) ?_
                                    refine AllReadyH.cons rfl (fun K hK => ?_) AllReadyH.nil
                                    go_simp
                                    refine hK.out _ _ (KEEP.out _ ((((hb.setCell (by dsimp only; omega) _).setCell (by dsimp only; omega) _).setCell (by dsimp only; omega) _).setCell (by dsimp only; omega) _)) (fun hS => ?_)
                                    clear hK K
                                    try simp only [Act.put, List.setIfInBounds_toArray, List.set_cons_zero, List.set_cons_succ]
                                    refine wpAnyH_take (i := 11) (oi := ⟨some 22, _, _, _, _, _⟩) (v := ?_) rfl (by kernel_rfl) (by kernel_rfl) (by kernel_rfl) (fun _ _ _ h => h) (Or.inl ⟨by rfl, ?_⟩) hS ?_
                                    rotate_left
                                    · (intro _ hW; obtain ⟨hW0, hW1, hW2, hW3, hW4⟩ := hW; go_simp; try (with_reducible rfl))
                                    try simp only [Act.put, List.setIfInBounds_toArray, List.set_cons_zero, List.set_cons_succ]
                                    refine wpAnyH_done (by kernel_rfl) ?_ _
                                    clear hS t0 t1 t2 t3 tf0 tf1 tf2 tf3 tl
                                    go_wp2_with fail
                                    go_meet
                                    case rel =>
                                      have hne : ∀ k, (Value.slice A4 r3.1.data.length c4).ownBlock = some k → k ≠ T := fun k hk e => row_ne HTR.out HOW.out (by decide) (hk.trans (congrArg some e))
                                      exact ⟨T, A4, c4, rfl, rfl, at_set4 HTR.out _ _ _ _, own_set (own_set (own_set (own_set HOW.out hne _) hne _) hne _) hne _, below_set4 HBX.out hTl _ _ _ _, hTl⟩
                                case rest =>
                                  obtain ⟨T4, A19, c19, rfl, rfl, hr19, ho19, hb19, ht4⟩ := hcut
                                  have ht4' : wr.heap.size ≤ T4 := Nat.le_trans hs18 ht4
                                  have yM := (hb19.block T3 (row_lt HR18.out)).trans HR18.out
                                  have HO18c := Lib.hid (own_kept HO18.out hb19 (Nat.le_refl _))
                                  have HO19c := Lib.hid (own_more ho19 hs18)
                                  have HR18c := Lib.hid yM
                                  have HR19 := Lib.hid hr19
                                  have HBC := Lib.hid (after HB18.out hb19)
                                  have F0 : ∀ p : Later wc, p.val.cell? ⟨T3, 0, none⟩ = some (.slice A18 r3.1.data.length c18) := fun p => p.cell (a := ⟨T3, 0, none⟩) (row_lt yM) (cell_of_row _ _ 0 _ _ _ yM)
                                  have F1 : ∀ p : Later wc, p.val.cell? ⟨T3, 1, none⟩ = some (.int .i64 r3.1.power) := fun p => p.cell (a := ⟨T3, 1, none⟩) (row_lt yM) (cell_of_row _ _ 1 _ _ _ yM)
                                  have F2 : ∀ p : Later wc, p.val.cell? ⟨T3, 2, none⟩ = some (.int .i64 r3.1.count) := fun p => p.cell (a := ⟨T3, 2, none⟩) (row_lt yM) (cell_of_row _ _ 2 _ _ _ yM)
                                  have F3 : ∀ p : Later wc, p.val.cell? ⟨T3, 3, none⟩ = some (.bool r3.1.down) := fun p => p.cell (a := ⟨T3, 3, none⟩) (row_lt yM) (cell_of_row _ _ 3 _ _ _ yM)
                                  have G0 : ∀ p : Later wc, p.val.cell? ⟨T4, 0, none⟩ = some (.slice A19 r3.1.data.length c19) := fun p => p.cell (a := ⟨T4, 0, none⟩) (row_lt hr19) (cell_of_row _ _ 0 _ _ _ hr19)
                                  have G1 : ∀ p : Later wc, p.val.cell? ⟨T4, 1, none⟩ = some (.int .i64 r3.1.power) := fun p => p.cell (a := ⟨T4, 1, none⟩) (row_lt hr19) (cell_of_row _ _ 1 _ _ _ hr19)
                                  have G2 : ∀ p : Later wc, p.val.cell? ⟨T4, 2, none⟩ = some (.int .i64 r3.1.count) := fun p => p.cell (a := ⟨T4, 2, none⟩) (row_lt hr19) (cell_of_row _ _ 2 _ _ _ hr19)
                                  have G3 : ∀ p : Later wc, p.val.cell? ⟨T4, 3, none⟩ = some (.bool r3.1.down) := fun p => p.cell (a := ⟨T4, 3, none⟩) (row_lt hr19) (cell_of_row _ _ 3 _ _ _ hr19)
                                  have KPL := fun p : Later wc => Lib.hid (plain_any A18 r3.1.data.length c18 r3.1.power r3.1.count r3.1.down p.val)
                                  have KSL := fun p : Later wc => Lib.hid (sameLog_any A18 A19 r3.1.data.length c18 r3.1.data.length c19 r3.1.power r3.1.count r3.1.down r3.1.data p.val ((Bys.of_own HO18c.out).to p.ok) ((Bys.of_own HO19c.out).to p.ok))
                                  have i5 : (r3.2 == r3.2) = true := by simp
                                  have i5' : (r3.2 != r3.2) = false := by simp
                                  clear e0 e1 e2 e3 KR KEEP yM hr19 ho19 hb19 HO18 HR18 hlR7 hbB7 hs18
                                  go_wp2_with fail
                                  (refine wp_region_later (by kernel_rfl) (by kernel_rfl) ?_; (repeat (first | go_big_quiet_step ((first | (go_at_call 17; (with_reducible exact Calls.later _ (KPL _).out)) | (go_at_call 16; (with_reducible exact Calls.later _ (KSL _).out)))) | quiet_step ((first | (go_at_call 17; (with_reducible exact Calls.later _ (KPL _).out)) | (go_at_call 16; (with_reducible exact Calls.later _ (KSL _).out)))))); refine wpQuiet_nil ?_; intro _ hw1; obtain ⟨pr, hw2⟩ := hw1; subst hw2)
                                  clear KPL KSL i5 i5' F0 F1 F2 F3 G0 G1 G2 G3
                                  have hbr := pr.ok
                                  have hbW := after HBC.out hbr
                                  have yM := (hbr.block T3 (row_lt HR18c.out)).trans HR18c.out
                                  have yN := (hbr.block T4 (row_lt HR19.out)).trans HR19.out
                                  have HO18d := Lib.hid (own_more (own_kept HO18c.out hbr (Nat.le_refl _)) HB3.out.size)
                                  have HO19d := Lib.hid (own_more (own_kept HO19c.out hbr (Nat.le_refl _)) HB3.out.size)
                                  have HBwI := Lib.hid (after HB3.out hbW)
                                  obtain ⟨AL, cL, rL, _⟩ := HLG3.out.later hbW
                                  obtain ⟨AR, cR, rR, _⟩ := HRG3.out.later hbW
                                  have RL := Lib.hid rL
                                  have RR := Lib.hid rR
                                  have YM := Lib.hid yM
                                  have YN := Lib.hid yN
                                  have m1 : ¬ T3 = L := by omega
                                  have m2 : ¬ T3 = R := by omega
                                  have m3 : ¬ T4 = L := by omega
                                  have m4 : ¬ T4 = R := by omega
                                  have m5 : ¬ L = T3 := by omega
                                  have m6 : ¬ R = T3 := by omega
                                  have m7 : ¬ L = T4 := by omega
                                  have m8 : ¬ R = T4 := by omega
                                  clear hbr hbW yM yN rL rR HO18c HO19c HR18c HR19 HBC ht3 ht4 ht4'
                                  generalize pr.val = wI at *
                                  have e0 := cell_of_row _ _ 0 _ _ _ (YM.out)
                                  have e1 := cell_of_row _ _ 1 _ _ _ (YM.out)
                                  have e2 := cell_of_row _ _ 2 _ _ _ (YM.out)
                                  have e3 := cell_of_row _ _ 3 _ _ _ (YM.out)
                                  have d0 := cell_of_row _ _ 0 _ _ _ (YN.out)
                                  have d1 := cell_of_row _ _ 1 _ _ _ (YN.out)
                                  have d2 := cell_of_row _ _ 2 _ _ _ (YN.out)
                                  have d3 := cell_of_row _ _ 3 _ _ _ (YN.out)
                                  have l0 := cell_of_row _ _ 0 _ _ _ (RL.out)
                                  have l1 := cell_of_row _ _ 1 _ _ _ (RL.out)
                                  have l2 := cell_of_row _ _ 2 _ _ _ (RL.out)
                                  have l3 := cell_of_row _ _ 3 _ _ _ (RL.out)
                                  have k0 := cell_of_row _ _ 0 _ _ _ (RR.out)
                                  have k1 := cell_of_row _ _ 1 _ _ _ (RR.out)
                                  have k2 := cell_of_row _ _ 2 _ _ _ (RR.out)
                                  have k3 := cell_of_row _ _ 3 _ _ _ (RR.out)
                                  have lf0 := frozen_of_row _ _ 0 _ _ RL.out
                                  have lf1 := frozen_of_row _ _ 1 _ _ RL.out
                                  have lf2 := frozen_of_row _ _ 2 _ _ RL.out
                                  have lf3 := frozen_of_row _ _ 3 _ _ RL.out
                                  have ll := row_lt RL.out
                                  have rf0 := frozen_of_row _ _ 0 _ _ RR.out
                                  have rf1 := frozen_of_row _ _ 1 _ _ RR.out
                                  have rf2 := frozen_of_row _ _ 2 _ _ RR.out
                                  have rf3 := frozen_of_row _ _ 3 _ _ RR.out
                                  have rl := row_lt RR.out
                                  have hr3z : r3.1.data.length ≤ 1048576 := hr3s.elim id fun e => Nat.le_trans e (by omega)
                                  have hs1 := Lib.hid (store_two (T := 29) (T' := 32) RL.out RR.out hLR (by decide) (by decide) HBwI.out hLw hRw HO18d.out HO19d.out)
                                  have hs2 := Lib.hid (store_two (T := 32) (T' := 29) RR.out RL.out hRL (by decide) (by decide) HBwI.out hRw hLw HO19d.out HO18d.out)
                                  clear RL RR YM YN HO18d HO19d HBwI hr3s
                                  go_upto_region 27 with (fail)
                                  go_region
                                  all_goals go_wp2_with fail
                                  all_goals go_roundg (gk - 1)
                                  all_goals first
                                    | (have := HGK.out; omega)
                                    | exact ⟨k + 1, r3.1, by have := HGK.out; omega, by go_num, hs1.out.1.later (Below.refl _ _).drew, hs1.out.2.1.later (Below.refl _ _).drew, hr3z, hr3p, hs1.out.2.2.drew⟩
                                    | exact ⟨k + 1, r3.1, by have := HGK.out; omega, by go_num, hs2.out.2.1.later (Below.refl _ _).drew, hs2.out.1.later (Below.refl _ _).drew, hr3z, hr3p, hs2.out.2.2.drew⟩
                          · have j1 : (E1 == 0) = false := by simpa using h1
                            clear h1
                            go_wp2_with fail
                            go_roundg g1
                            case measure => exact HG1.out.1
                            case rel => exact ⟨i + 1, lg3, HG1.out.2, by go_num, HLG3.out, HRG3.out, hsz3, hlp3, HB3.out⟩
                        · have j2 : (E2 == 0) = false := by simpa using h2
                          clear h2
                          go_wp2_with fail
                          go_roundg g1
                          case measure => exact HG1.out.1
                          case rel => exact ⟨i + 1, lg3, HG1.out.2, by go_num, HLG3.out, HRG3.out, hsz3, hlp3, HB3.out⟩
                    · have i3 : ¬ (k : Int) < (n' : Int) := by omega
                      go_wp2_with fail
                      go_roundg g1
                      case measure => exact HG1.out.1
                      case rel => exact ⟨i + 1, lg3, HG1.out.2, by go_num, HLG3.out, HRG3.out, hsz3, hlp3, HB3.out⟩
        · have i3 : ¬ (i : Int) < (n : Int) := by omega
          go_wp2_with fail
          refine (awake_any _).mono ?_
          rintro e w5 ⟨rfl, hb5⟩
          go_wp2_with fail
          go_ret
          exact ⟨rfl, HB.out.trans (hb5.mono HB.out.size)⟩
end Go.Proofs.Ytbkicepkkcambaa
