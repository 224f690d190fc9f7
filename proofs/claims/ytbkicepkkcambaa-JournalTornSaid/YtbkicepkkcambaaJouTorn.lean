/- JournalTorn: the walk. -/
import Derived.Test.YtbkicepkkcambaaJouTornA
import Derived.Deep.CutRange
namespace Go.Proofs.Ytbkicepkkcambaa
open Go.RowKit BigFrame Go.Shelf
set_option linter.unusedVariables false
set_option linter.unusedSimpArgs false

/-- A store in a box, as a call has handed it back. -/
def StoAt (W0 : World) (r : Sto × Int) (s7 s8 : Value) (wc : World) : Prop :=
  ∃ T A c, s7 = .pointer (some ⟨T, 0, none⟩) ∧ s8 = .int .i64 r.2 ∧ wc.heap[T]? = some (.cells #[.slice A r.1.data.length c, .int .i64 r.1.power] 27 (0, 0)) ∧ r.1.data.length ≤ c ∧ c ≤ 9223372036854775807 ∧ Bys wc wc.heap.size A r.1.data.length r.1.data ∧ Below W0.heap.size W0 wc

set_option maxRecDepth 100000 in
set_option maxHeartbeats 1000000 in
theorem torn_walk (A A' : Option Addr) (n c n' c' : Nat) (pw : List Int) (l : List Bytes) (w : World) (h : Ints w w.heap.size A n pw) (h' : Tx w w.heap.size A' n' l) (hnc : n ≤ c) (hc63 : c ≤ 9223372036854775807) (hnc' : n' ≤ c') (hc63' : c' ≤ 9223372036854775807) (hpw : ∀ x ∈ pw, -9223372036854775808 ≤ x ∧ x ≤ 9223372036854775807) :
    Calls Try.prog 4 #[.slice A n c, .slice A' n' c'] w fun e w' => e = .returned (.bool true) ∧ Below w.heap.size w w' := by
  have HI := Lib.hid h
  have HT := Lib.hid h'
  have HLEN := Lib.hid h'.len
  have HPW := Lib.hid hpw
  clear h h' hpw
  by_cases h20 : 20 < n
  · have i1 : (20 : Int) < n := by omega
    clear h20
    go_enter Try.func4, Try.ntmps4
    go_wp2_with fail
    refine (awake_any w).mono ?_
    rintro e w1 ⟨rfl, hb1⟩
    go_wp2_with fail
    go_ret
    exact ⟨rfl, hb1⟩
  · have i1 : decide ((20 : Int) < (n : Int)) = false := by rw [decide_eq_false_iff_not]; omega
    have h20' : n ≤ 20 := by omega
    clear h20
    cases hs : shortB l 20 with
    | false =>
      have HS := Lib.hid hs
      clear hs
      go_enter Try.func4, Try.ntmps4
      go_wp2_with fail
      refine (awake_any w).mono ?_
      rintro e w1 ⟨rfl, hb1⟩
      go_wp2_with fail
      refine (short_any A' n' c' 20 l w1 (HT.out.to hb1) (by omega) (by omega) (by omega)).mono ?_
      rintro e w2 ⟨rfl, rfl⟩
      rw [HS.out]
      go_wp2_with fail
      go_ret
      exact ⟨rfl, hb1⟩
    | true =>
      have HS := Lib.hid hs
      obtain ⟨hl20, h300⟩ : l.length ≤ 20 ∧ ∀ x ∈ l, x.length ≤ 300 := by
        unfold shortB at hs
        rw [decide_eq_true_iff] at hs
        exact ⟨by omega, hs.2⟩
      have H3 := Lib.hid h300
      have hn' : n' ≤ 20 := by rw [← HLEN.out]; exact hl20
      clear hs h300 hl20
      go_enter Try.func4, Try.ntmps4
      go_wp2_with fail
      refine (awake_any w).mono ?_
      rintro e w1 ⟨rfl, hb1⟩
      have HB1 := Lib.hid hb1
      go_wp2_with fail
      refine (short_any A' n' c' 20 l w1 (HT.out.to hb1) (by omega) (by omega) (by omega)).mono ?_
      rintro e w2 ⟨rfl, rfl⟩
      rw [HS.out]
      have hs1 := hb1.size
      clear hb1
      go_wp2_with fail
      obtain ⟨L, hL⟩ : ∃ L, w1.heap.size = L := ⟨_, rfl⟩
      have hLw : w.heap.size ≤ L := by omega
      have hlg0 : LogAt w (w1.alloc (.cells #[.slice none 0 0, .int .i64 0, .int .i64 0, .bool false] 29)) L Lg.zero := ⟨none, 0, heap_at hL.symm, World.ownsRow_nil _ _ _ _⟩
      have hk0 : KeptAt w (w1.alloc (.cells #[.slice none 0 0, .int .i64 0, .int .i64 0, .bool false] 29)) (.slice none 0 0) [] := ⟨none, 0, [], rfl, World.ownsRow_nil _ _ _ _, trivial⟩
      have hb0 : Below w.heap.size w (w1.alloc (.cells #[.slice none 0 0, .int .i64 0, .int .i64 0, .bool false] 29)) := HB1.out.alloc (by omega) _
      rw [hL]
      generalize World.alloc w1 _ = wA at *
      clear hL hs1
      go_loopg [6, 7, 8] n (fun gk v6 v7 v8 wr => ∃ (i : Nat) (K : List Bytes) (lg : Lg), gk + i = n ∧ v8 = .int .i64 i ∧ v7 = .int .i64 K.length ∧ KeptAt w wr v6 K ∧ LogAt w wr L lg ∧ Holds lg K ∧ (∀ x ∈ K, x.length ≤ 300) ∧ K.length ≤ 20 * i ∧ Below w.heap.size w wr ∧ lg.power ≤ 9223372036854775807)
      case atStart => exact ⟨0, [], Lg.zero, rfl, rfl, rfl, hk0, hlg0, holds_zero, by simp, by simp, hb0, by simp [Lg.zero]⟩
      case round =>
        obtain ⟨i, K, lg, hgi, rfl, rfl, hk, hlg, hH, hK3, hKn, hb, hlp⟩ := hrel
        have HK := Lib.hid hk
        have HLG := Lib.hid hlg
        have HHH := Lib.hid hH
        have HK3 := Lib.hid hK3
        have HB := Lib.hid hb
        have HGI := Lib.hid hgi
        obtain ⟨A6, c6, hv6, hc6, hc6', htx⟩ := hk.tx hb
        have HTX := Lib.hid htx
        obtain ⟨A5, c5, hr5, hc5, hc5', hy5⟩ := hlg.data
        have HR5 := Lib.hid hr5
        have HY5 := Lib.hid hy5
        have e0 : wr.cell? ⟨L, 0, none⟩ = some (.slice A5 lg.data.length c5) := cell_of_row _ _ 0 _ _ _ hr5
        have e1 : wr.cell? ⟨L, 1, none⟩ = some (.int .i64 lg.power) := cell_of_row _ _ 1 _ _ _ hr5
        have e2 : wr.cell? ⟨L, 2, none⟩ = some (.int .i64 lg.count) := cell_of_row _ _ 2 _ _ _ hr5
        have e3 : wr.cell? ⟨L, 3, none⟩ = some (.bool lg.down) := cell_of_row _ _ 3 _ _ _ hr5
        have hlL := row_lt hr5
        have hsz := hH.size
        have hKl : K.length ≤ 400 := by omega
        subst hv6
        have hgn : gk ≤ n := by omega
        clear hk hlg hH hK3 hb hgi htx hr5 hy5 hk0 hlg0 hb0
        by_cases hlt : i < n
        · obtain ⟨pwi, b, o, hpi, hAe, hbB, cpi⟩ := (HI.out.to HB.out).at_ hlt
          subst hAe
          have hpb := HPW.out pwi (List.mem_of_getElem? hpi)
          have hki : (i : Int) < (n : Int) := by omega
          have hk0 : (0 : Int) ≤ (i : Int) := by omega
          have CPI := Lib.hid cpi
          have KEEP : Hid (∀ W', Below wr.heap.size wr W' → W'.cell? ⟨L, 0, none⟩ = some (.slice A5 lg.data.length c5) ∧ W'.cell? ⟨L, 1, none⟩ = some (.int .i64 lg.power) ∧ W'.cell? ⟨L, 2, none⟩ = some (.int .i64 lg.count) ∧ W'.cell? ⟨L, 3, none⟩ = some (.bool lg.down) ∧ W'.cell? ⟨b, o + i, none⟩ = some (.int .i64 pwi)) :=
            Lib.hid fun W' hW' => ⟨(hW'.cell (p := ⟨L, 0, none⟩) hlL).trans e0, (hW'.cell (p := ⟨L, 1, none⟩) hlL).trans e1, (hW'.cell (p := ⟨L, 2, none⟩) hlL).trans e2, (hW'.cell (p := ⟨L, 3, none⟩) hlL).trans e3, (hW'.cell (p := ⟨b, o + i, none⟩) hbB).trans CPI.out⟩
          obtain ⟨r, hr⟩ : ∃ r, restoreR lg pwi = r := ⟨_, rfl⟩
          have KR : Hid (∀ W', Below wr.heap.size wr W' → Calls Try.prog 10 #[.agg #[.slice A5 lg.data.length c5, .int .i64 lg.power, .int .i64 lg.count, .bool lg.down], .int .i64 pwi] W' (GivesSto W' r)) :=
            Lib.hid fun W' hW => by
              have := restore_any A5 lg.data.length c5 lg.power lg.count pwi lg.down lg.data W' (HY5.out.to hW) (by omega) hc5 hc5'
              rwa [hr] at this
          have HR := Lib.hid hr
          clear hpi cpi hr
          go_upto_region 11 with (fail)
          go_cut [9, 10] from 33 to 154 (fun s9 s10 wc => StoAt wr r s9 s10 wc)
          case first =>
            refine wp_region_held_drew (S := fun W' => W'.cell? ⟨L, 0, none⟩ = some (.slice A5 lg.data.length c5) ∧ W'.cell? ⟨L, 1, none⟩ = some (.int .i64 lg.power) ∧ W'.cell? ⟨L, 2, none⟩ = some (.int .i64 lg.count) ∧ W'.cell? ⟨L, 3, none⟩ = some (.bool lg.down) ∧ W'.cell? ⟨b, o + i, none⟩ = some (.int .i64 pwi)) (by kernel_rfl) (KEEP.out _ (by go_grown)) (fun hS => ?_)
            have hb : Below wr.heap.size wr wr.drew := by go_grown
            clear e0 e1 e2 e3
            refine wpAnyH_take (i := 0) (oi := ⟨some 40, _, _, _, _, _⟩) (v := ?_) rfl (by kernel_rfl) (by kernel_rfl) (by kernel_rfl) (fun _ _ _ h => h) (Or.inl ⟨by rfl, ?_⟩) hS ?_
            rotate_left
            · (intro _ hW; obtain ⟨hW0, hW1, hW2, hW3, hW4⟩ := hW; go_simp; try (with_reducible rfl))
            try simp only [Act.put, List.setIfInBounds_toArray, List.set_cons_zero, List.set_cons_succ]
            refine wpAnyH_take (i := 1) (oi := ⟨some 41, _, _, _, _, _⟩) (v := ?_) rfl (by kernel_rfl) (by kernel_rfl) (by kernel_rfl) (fun _ _ _ h => h) (Or.inl ⟨by rfl, ?_⟩) hS ?_
            rotate_left
            · (intro _ hW; obtain ⟨hW0, hW1, hW2, hW3, hW4⟩ := hW; go_simp; try (with_reducible rfl))
            try simp only [Act.put, List.setIfInBounds_toArray, List.set_cons_zero, List.set_cons_succ]
            refine wpAnyH_take (i := 2) (oi := ⟨some 42, _, _, _, _, _⟩) (v := ?_) rfl (by kernel_rfl) (by kernel_rfl) (by kernel_rfl) (fun _ _ _ h => h) (Or.inl ⟨by rfl, ?_⟩) hS ?_
            rotate_left
            · (intro _ hW; obtain ⟨hW0, hW1, hW2, hW3, hW4⟩ := hW; go_simp; try (with_reducible rfl))
            try simp only [Act.put, List.setIfInBounds_toArray, List.set_cons_zero, List.set_cons_succ]
            refine wpAnyH_take (i := 3) (oi := ⟨some 43, _, _, _, _, _⟩) (v := ?_) rfl (by kernel_rfl) (by kernel_rfl) (by kernel_rfl) (fun _ _ _ h => h) (Or.inl ⟨by rfl, ?_⟩) hS ?_
            rotate_left
            · (intro _ hW; obtain ⟨hW0, hW1, hW2, hW3, hW4⟩ := hW; go_simp; try (with_reducible rfl))
            try simp only [Act.put, List.setIfInBounds_toArray, List.set_cons_zero, List.set_cons_succ]
            refine wpAnyH_take (i := 4) (oi := ⟨some 44, _, _, _, _, _⟩) (v := ?_) rfl (by kernel_rfl) (by kernel_rfl) (by kernel_rfl) (fun _ _ _ h => h) (Or.inl ⟨by rfl, ?_⟩) hS ?_
            rotate_left
            · (intro _ hW; obtain ⟨hW0, hW1, hW2, hW3, hW4⟩ := hW; go_simp; try (with_reducible rfl))
            try simp only [Act.put, List.setIfInBounds_toArray, List.set_cons_zero, List.set_cons_succ]
            refine wpAnyH_ready (rs := [5, 9]) (by kernel_rfl) (by simp) ?_
            refine AllReadyH.cons rfl (fun K hK => ?_) (AllReadyH.cons rfl (fun K hK => ?_) AllReadyH.nil)
            · go_simp
              go_at_call 10
              (with_reducible refine (KR.out _ hb).mono ?_)
              rintro e w4 ⟨A4, c4, rfl, hoW, hb4⟩
              try replace hTr := (hb4.block _ (row_lt hTr)).trans hTr
              replace hb := hb.trans (hb4.mono hb.size)
              have hs4 := hb.size
              replace hoW := own_more (base' := wr.heap.size) hoW (by first | omega | (simp; done) | (simp; omega))
              refine hK.out _ _ ?_ (fun hS => ?_)
              · exact KEEP.out _ (by first | exact hb | go_grown)
              clear hK K
              try simp only [Act.put, List.setIfInBounds_toArray, List.set_cons_zero, List.set_cons_succ]
              refine wpAnyH_take (i := 6) (oi := ⟨some 39, _, _, _, _, _⟩) (v := ?_) rfl (by kernel_rfl) (by kernel_rfl) (by kernel_rfl) (fun _ _ _ h => h) (Or.inl ⟨by rfl, ?_⟩) hS ?_
              rotate_left
              · (intro _ hW; obtain ⟨hW0, hW1, hW2, hW3, hW4⟩ := hW; go_simp; try (with_reducible rfl))
              try simp only [Act.put, List.setIfInBounds_toArray, List.set_cons_zero, List.set_cons_succ]
              refine wpAnyH_take (i := 7) (oi := ⟨some 46, _, _, _, _, _⟩) (v := ?_) rfl (by kernel_rfl) (by kernel_rfl) (by kernel_rfl) (fun _ _ _ h => h) (Or.inl ⟨by rfl, ?_⟩) hS ?_
              rotate_left
              · (intro _ hW; obtain ⟨hW0, hW1, hW2, hW3, hW4⟩ := hW; go_simp; try (with_reducible rfl))
              try simp only [Act.put, List.setIfInBounds_toArray, List.set_cons_zero, List.set_cons_succ]
              refine wpAnyH_take (i := 8) (oi := ⟨some 47, _, _, _, _, _⟩) (v := ?_) rfl (by kernel_rfl) (by kernel_rfl) (by kernel_rfl) (fun _ _ _ h => h) (Or.inl ⟨by rfl, ?_⟩) hS ?_
              rotate_left
              · (intro _ hW; obtain ⟨hW0, hW1, hW2, hW3, hW4⟩ := hW; go_simp; try (with_reducible rfl))
              try simp only [Act.put, List.setIfInBounds_toArray, List.set_cons_zero, List.set_cons_succ]
              refine wpAnyH_ready (rs := [9]) (by kernel_rfl) (by simp) ?_
              refine AllReadyH.cons rfl (fun K hK => ?_) AllReadyH.nil
              go_simp
              have hTr := (heap_at (w := w4) (o := .cells #[.slice none 0 0, .int .i64 0] 27) rfl)
              have hTl : wr.heap.size ≤ (w4).heap.size := (by first | omega | (simp; done) | (simp; omega))
              replace hb := hb.alloc (by first | omega | (simp; done) | (simp; omega)) (.cells #[.slice none 0 0, .int .i64 0] 27)
              try replace hoW := hoW.alloc (.cells #[.slice none 0 0, .int .i64 0] 27)
              refine hK.out _ _ ?_ (fun hS => ?_)
              · exact KEEP.out _ (by first | exact hb | go_grown)
              clear hK K
              try simp only [Act.put, List.setIfInBounds_toArray, List.set_cons_zero, List.set_cons_succ]
              obtain ⟨wX, hwX⟩ : ∃ wX, wX = w4.alloc (.cells #[.slice none 0 0, .int .i64 0] 27) := ⟨_, rfl⟩
              rw [← hwX]
              obtain ⟨T, hT⟩ : ∃ T, T = w4.heap.size := ⟨_, rfl⟩
              rw [← hT]
              replace hTr : wX.heap[T]? = some (.cells #[.slice none 0 0, .int .i64 0] 27 (0, 0)) := by rw [hwX, hT]; exact hTr
              replace hTl : wr.heap.size ≤ T := by rw [hT]; exact hTl
              replace hoW : wX.ownsRow wr.heap.size 5 1 (.slice A4 r.1.data.length c4) r.1.data.length (bys r.1.data) := by rw [hwX]; exact hoW
              replace hb : Below wr.heap.size wr wX := by rw [hwX]; exact hb
              have t0 := cell_of_row _ _ 0 _ _ _ hTr
              have t1 := cell_of_row _ _ 1 _ _ _ hTr
              have tf0 := frozen_of_row _ _ 0 _ _ hTr
              have tf1 := frozen_of_row _ _ 1 _ _ hTr
              have tl := row_lt hTr
              have HTR := Lib.hid hTr
              have HOW := Lib.hid hoW
              have HBX := Lib.hid hb
              clear hT hwX hTr hoW
              refine wpAnyH_ready (rs := [10]) (by kernel_rfl) (by simp) ?_
              refine AllReadyH.cons rfl (fun K hK => ?_) AllReadyH.nil
              go_simp
              refine hK.out _ _ (KEEP.out _ ((hb.setCell (by dsimp only; omega) _).setCell (by dsimp only; omega) _)) (fun hS => ?_)
              clear hK K
              try simp only [Act.put, List.setIfInBounds_toArray, List.set_cons_zero, List.set_cons_succ]
              refine wpAnyH_take (i := 11) (oi := ⟨some 10, _, _, _, _, _⟩) (v := ?_) rfl (by kernel_rfl) (by kernel_rfl) (by kernel_rfl) (fun _ _ _ h => h) (Or.inl ⟨by rfl, ?_⟩) hS ?_
              rotate_left
              · (intro _ hW; obtain ⟨hW0, hW1, hW2, hW3, hW4⟩ := hW; go_simp; try (with_reducible rfl))
              try simp only [Act.put, List.setIfInBounds_toArray, List.set_cons_zero, List.set_cons_succ]
              refine wpAnyH_done (by kernel_rfl) ?_ _
              clear hS t0 t1 tf0 tf1 tl
              go_wp2_with fail
              go_meet
              case rel =>
                have hbf := (HBX.out.setCell (p := ⟨T, 0, none⟩) (by dsimp only; omega) (.slice A4 r.1.data.length c4)).setCell (p := ⟨T, 1, none⟩) (by dsimp only; omega) (.int .i64 r.1.power)
                refine ⟨T, A4, c4, rfl, rfl, set_row (set_row HTR.out _) _, (own_cap HOW.out).1, (own_cap HOW.out).2, Bys.of_own (own_set (own_set HOW.out ?_ _) ?_ _), hbf⟩
                all_goals exact fun k hk e => row_ne HTR.out HOW.out (by decide) (hk.trans (congrArg some e))
            · go_simp
              have hTr := (heap_at (w := wr) (o := .cells #[.slice none 0 0, .int .i64 0] 27) rfl)
              have hTl : wr.heap.size ≤ (wr).heap.size := (by first | omega | (simp; done) | (simp; omega))
              replace hb := hb.alloc (by first | omega | (simp; done) | (simp; omega)) (.cells #[.slice none 0 0, .int .i64 0] 27)
              try replace hoW := hoW.alloc (.cells #[.slice none 0 0, .int .i64 0] 27)
              refine hK.out _ _ ?_ (fun hS => ?_)
              · exact KEEP.out _ (by first | exact hb | go_grown)
              clear hK K
              try simp only [Act.put, List.setIfInBounds_toArray, List.set_cons_zero, List.set_cons_succ]
              replace hb : Below wr.heap.size wr (wr.alloc (.cells #[.slice none 0 0, .int .i64 0] 27)).drew := by go_grown
              refine wpAnyH_ready (rs := [5]) (by kernel_rfl) (by simp) ?_
              refine AllReadyH.cons rfl (fun K hK => ?_) AllReadyH.nil
              go_simp
              go_at_call 10
              (with_reducible refine (KR.out _ hb).mono ?_)
              rintro e w4 ⟨A4, c4, rfl, hoW, hb4⟩
              try replace hTr := (hb4.block _ (row_lt hTr)).trans hTr
              replace hb := hb.trans (hb4.mono hb.size)
              have hs4 := hb.size
              replace hoW := own_more (base' := wr.heap.size) hoW (by first | omega | (simp; done) | (simp; omega))
              refine hK.out _ _ ?_ (fun hS => ?_)
              · exact KEEP.out _ (by first | exact hb | go_grown)
              clear hK K
              try simp only [Act.put, List.setIfInBounds_toArray, List.set_cons_zero, List.set_cons_succ]
              refine wpAnyH_take (i := 6) (oi := ⟨some 39, _, _, _, _, _⟩) (v := ?_) rfl (by kernel_rfl) (by kernel_rfl) (by kernel_rfl) (fun _ _ _ h => h) (Or.inl ⟨by rfl, ?_⟩) hS ?_
              rotate_left
              · (intro _ hW; obtain ⟨hW0, hW1, hW2, hW3, hW4⟩ := hW; go_simp; try (with_reducible rfl))
              try simp only [Act.put, List.setIfInBounds_toArray, List.set_cons_zero, List.set_cons_succ]
              refine wpAnyH_take (i := 7) (oi := ⟨some 46, _, _, _, _, _⟩) (v := ?_) rfl (by kernel_rfl) (by kernel_rfl) (by kernel_rfl) (fun _ _ _ h => h) (Or.inl ⟨by rfl, ?_⟩) hS ?_
              rotate_left
              · (intro _ hW; obtain ⟨hW0, hW1, hW2, hW3, hW4⟩ := hW; go_simp; try (with_reducible rfl))
              try simp only [Act.put, List.setIfInBounds_toArray, List.set_cons_zero, List.set_cons_succ]
              refine wpAnyH_take (i := 8) (oi := ⟨some 47, _, _, _, _, _⟩) (v := ?_) rfl (by kernel_rfl) (by kernel_rfl) (by kernel_rfl) (fun _ _ _ h => h) (Or.inl ⟨by rfl, ?_⟩) hS ?_
              rotate_left
              · (intro _ hW; obtain ⟨hW0, hW1, hW2, hW3, hW4⟩ := hW; go_simp; try (with_reducible rfl))
              try simp only [Act.put, List.setIfInBounds_toArray, List.set_cons_zero, List.set_cons_succ]
              obtain ⟨wX, hwX⟩ : ∃ wX, wX = w4 := ⟨_, rfl⟩
              rw [← hwX]
              obtain ⟨T, hT⟩ : ∃ T, T = wr.heap.size := ⟨_, rfl⟩
              rw [← hT]
              replace hTr : wX.heap[T]? = some (.cells #[.slice none 0 0, .int .i64 0] 27 (0, 0)) := by rw [hwX, hT]; exact hTr
              replace hTl : wr.heap.size ≤ T := by rw [hT]; exact hTl
              replace hoW : wX.ownsRow wr.heap.size 5 1 (.slice A4 r.1.data.length c4) r.1.data.length (bys r.1.data) := by rw [hwX]; exact hoW
              replace hb : Below wr.heap.size wr wX := by rw [hwX]; exact hb
              have t0 := cell_of_row _ _ 0 _ _ _ hTr
              have t1 := cell_of_row _ _ 1 _ _ _ hTr
              have tf0 := frozen_of_row _ _ 0 _ _ hTr
              have tf1 := frozen_of_row _ _ 1 _ _ hTr
              have tl := row_lt hTr
              have HTR := Lib.hid hTr
              have HOW := Lib.hid hoW
              have HBX := Lib.hid hb
              clear hT hwX hTr hoW
              refine wpAnyH_ready (rs := [10]) (by kernel_rfl) (by simp) ?_
              refine AllReadyH.cons rfl (fun K hK => ?_) AllReadyH.nil
              go_simp
              refine hK.out _ _ (KEEP.out _ ((hb.setCell (by dsimp only; omega) _).setCell (by dsimp only; omega) _)) (fun hS => ?_)
              clear hK K
              try simp only [Act.put, List.setIfInBounds_toArray, List.set_cons_zero, List.set_cons_succ]
              refine wpAnyH_take (i := 11) (oi := ⟨some 10, _, _, _, _, _⟩) (v := ?_) rfl (by kernel_rfl) (by kernel_rfl) (by kernel_rfl) (fun _ _ _ h => h) (Or.inl ⟨by rfl, ?_⟩) hS ?_
              rotate_left
              · (intro _ hW; obtain ⟨hW0, hW1, hW2, hW3, hW4⟩ := hW; go_simp; try (with_reducible rfl))
              try simp only [Act.put, List.setIfInBounds_toArray, List.set_cons_zero, List.set_cons_succ]
              refine wpAnyH_done (by kernel_rfl) ?_ _
              clear hS t0 t1 tf0 tf1 tl
              go_wp2_with fail
              go_meet
              case rel =>
                have hbf := (HBX.out.setCell (p := ⟨T, 0, none⟩) (by dsimp only; omega) (.slice A4 r.1.data.length c4)).setCell (p := ⟨T, 1, none⟩) (by dsimp only; omega) (.int .i64 r.1.power)
                refine ⟨T, A4, c4, rfl, rfl, set_row (set_row HTR.out _) _, (own_cap HOW.out).1, (own_cap HOW.out).2, Bys.of_own (own_set (own_set HOW.out ?_ _) ?_ _), hbf⟩
                all_goals exact fun k hk e => row_ne HTR.out HOW.out (by decide) (hk.trans (congrArg some e))
          case rest =>
            obtain ⟨T, A7, c7, rfl, rfl, hr7, hc7, hc7', hy7, hb7⟩ := hcut
            have hcR := cutR_holds HHH.out pwi
            rw [HR.out] at hcR
            have hb8 := HB.out.trans (hb7.mono HB.out.size)
            have HB8 := Lib.hid hb8
            have HK8 := Lib.hid (HK.out.later hb7)
            have HLG8 := Lib.hid (HLG.out.later hb7)
            have hpi8 := (KEEP.out wc hb7).2.2.2.2
            have f3 := (KEEP.out wc hb7).2.2.2.1
            have HR7 := Lib.hid hr7
            have HTX8 := Lib.hid (HTX.out.to hb7)
            have hL8 := Nat.lt_of_lt_of_le hlL hb7.size
            have g0 : wc.cell? ⟨T, 0, none⟩ = some (.slice A7 r.1.data.length c7) := cell_of_row _ _ 0 _ _ _ hr7
            have g1 : wc.cell? ⟨T, 1, none⟩ = some (.int .i64 r.1.power) := cell_of_row _ _ 1 _ _ _ hr7
            clear e0 e1 e2 e3 KR HR hb7 hb8 hr7
            rcases hcR with ⟨hp1, hr1⟩ | ⟨hp1, hr1, hop⟩
            · subst hr1
              dsimp only [Sto.zero, List.length_nil] at g0 g1 ⊢
              clear hy7 hc7 g0 g1 f3
              go_wp2_with fail
              go_roundg (gk - 1)
              case measure => have := HGI.out; omega
              case rel => exact ⟨i + 1, K, lg, by have := HGI.out; omega, by go_num, rfl, HK8.out, HLG8.out, HHH.out, HK3.out, by omega, HB8.out, hlp⟩
            · subst hr1
              dsimp only at hc7 hy7 g0 g1 ⊢
              have HOP := Lib.hid hop
              have KO := Lib.hid (open_any A7 lg.data.length c7 pwi lg.data wc hy7 (by omega) hc7 hc7' hpb.2)
              clear hop hy7
              go_wp2_with fail
              rcases HOP.out with ⟨m, ho, hHm, hmd, hmc⟩ | ⟨ho, hp0, hdn⟩
              · rw [ho] at KO
                refine KO.out.mono ?_
                rintro e w5 ⟨A8, c8, A9, c9, vs9, rfl, ho8, ho9, ht9, hb9⟩
                dsimp only at ho8 ht9 ⊢
                have HB9 := Lib.hid (HB8.out.trans (hb9.mono HB8.out.size))
                have HK9 := Lib.hid (HK8.out.later hb9)
                have HLG9 := Lib.hid (HLG8.out.later hb9)
                have HO8 := Lib.hid (own_more (base' := w.heap.size) ho8 HB8.out.size)
                have KT := Lib.hid (fun W (hW : Below w5.heap.size w5 W) => sameTexts_any A9 A6 K.length c9 K.length c6 K K W ((Tx.of_own ho9 ht9).to hW) ((HTX8.out.to hb9).to hW) (by omega) (by omega))
                rw [show decide (K = K) = true from decide_eq_true rfl] at KT
                have hcm := own_cap ho8
                have hmz := hHm.size
                have hmpw : m.power ≤ 9223372036854775807 := by
                  have := open_power (s := ⟨lg.data, pwi⟩) (M := 9223372036854775807) hpb.2 (by omega)
                  rwa [ho] at this
                have HMPW := Lib.hid hmpw
                have hmp := hHm.pow
                have HRT := Lib.hid hHm.right
                have HHM := Lib.hid hHm
                have hL9 : L < w5.heap.size := Nat.lt_of_lt_of_le hL8 hb9.size
                have j1 : (m.count == (K.length : Int)) = true := by rw [hmc]; simp
                have j2 : (m.count != (K.length : Int)) = false := by rw [hmc]; simp
                have HMD := Lib.hid hmd
                clear hb9 ho8 ho9 ht9 KO hpi8 f3 g0 g1 hHm hmd hmc ho hmpw
                go_wp2_with fail
                (with_reducible refine (KT.out _ (by go_grown)).mono ?_)
                rintro e w6 ⟨rfl, hb10⟩
                have r11 := (hb10.block w5.heap.size (by simp)).trans (heap_at (w := w5) rfl)
                have hb56 : Below w5.heap.size w5 w6 := Below.trans (by go_grown) (hb10.mono (by simp))
                have KRT := Lib.hid (right_log A8 m.data.length c8 m.power m.count m.down m.data w6 ((Bys.of_own HO8.out).to hb56) (by omega) hcm.1 hcm.2)
                rw [show rightB ⟨m.data, m.power, m.count, m.down⟩ = true from HRT.out] at KRT
                have d0 : w6.cell? ⟨w5.heap.size, 0, none⟩ = some (.slice A8 m.data.length c8) := cell_of_row _ _ 0 _ _ _ r11
                have d1 : w6.cell? ⟨w5.heap.size, 1, none⟩ = some (.int .i64 m.power) := cell_of_row _ _ 1 _ _ _ r11
                have d2 : w6.cell? ⟨w5.heap.size, 2, none⟩ = some (.int .i64 m.count) := cell_of_row _ _ 2 _ _ _ r11
                have d3 : w6.cell? ⟨w5.heap.size, 3, none⟩ = some (.bool m.down) := cell_of_row _ _ 3 _ _ _ r11
                rw [HMD.out] at KRT d3
                have R11 := Lib.hid r11
                have HB56 := Lib.hid hb56
                clear hb10 hb56 r11 KT
                go_wp2_with fail
                (with_reducible refine KRT.out.mono ?_)
                rintro e w7 ⟨rfl, hb11⟩
                have r11 := (hb11.block w5.heap.size (row_lt R11.out)).trans R11.out
                have hb57 := HB56.out.trans (hb11.mono HB56.out.size)
                have hk7 := Lib.hid (HK9.out.later hb57)
                obtain ⟨AL, cL, rL, _⟩ := HLG9.out.later hb57
                have HO7 := Lib.hid (own_kept HO8.out hb57 (Nat.le_refl _))
                have HB7 := Lib.hid (HB9.out.trans (hb57.mono HB9.out.size))
                have d0 : w7.cell? ⟨w5.heap.size, 0, none⟩ = some (.slice A8 m.data.length c8) := cell_of_row _ _ 0 _ _ _ r11
                have d1 : w7.cell? ⟨w5.heap.size, 1, none⟩ = some (.int .i64 m.power) := cell_of_row _ _ 1 _ _ _ r11
                have d2 : w7.cell? ⟨w5.heap.size, 2, none⟩ = some (.int .i64 m.count) := cell_of_row _ _ 2 _ _ _ r11
                have d3 : w7.cell? ⟨w5.heap.size, 3, none⟩ = some (.bool m.down) := cell_of_row _ _ 3 _ _ _ r11
                rw [HMD.out] at d3
                have RL := Lib.hid rL
                have l0 := cell_of_row _ _ 0 _ _ _ rL
                have l1 := cell_of_row _ _ 1 _ _ _ rL
                have l2 := cell_of_row _ _ 2 _ _ _ rL
                have l3 := cell_of_row _ _ 3 _ _ _ rL
                have lf0 := frozen_of_row _ _ 0 _ _ rL
                have lf1 := frozen_of_row _ _ 1 _ _ rL
                have lf2 := frozen_of_row _ _ 2 _ _ rL
                have lf3 := frozen_of_row _ _ 3 _ _ rL
                have ll := row_lt rL
                have hsl : Hid (KeptAt w (set4 w7 L (.slice A8 m.data.length c8) (.int .i64 m.power) (.int .i64 m.count) (.bool m.down)) (.slice A6 K.length c6) K ∧ LogAt w (set4 w7 L (.slice A8 m.data.length c8) (.int .i64 m.power) (.int .i64 m.count) (.bool m.down)) L m ∧ Below w.heap.size w (set4 w7 L (.slice A8 m.data.length c8) (.int .i64 m.power) (.int .i64 m.count) (.bool m.down))) :=
                  Lib.hid (store_log hk7.out rL HO7.out HB7.out hLw)
                rw [HMD.out] at hsl
                obtain ⟨g1, hg1⟩ : ∃ g1, g1 = gk - 1 := ⟨_, rfl⟩
                have HG1 : Hid (g1 < gk ∧ g1 + (i + 1) = n) := Lib.hid (by have := HGI.out; omega)
                clear hb11 hb57 r11 rL KRT hg1
                have hin : n' ≤ 20 := hn'
                go_upto_region 23 with (fail)
                generalize hwI : World.setCell (World.setCell (World.setCell (World.setCell w7 _ _) _ _) _ _) _ _ = wI
                have hI : KeptAt w wI (.slice A6 K.length c6) K ∧ LogAt w wI L m ∧ Below w.heap.size w wI := by rw [← hwI]; exact hsl.out
                clear hwI l0 l1 l2 l3 lf0 lf1 lf2 lf3 ll d0 d1 d2 d3 hsl
                go_loopg [6, 7, 14] n' (fun gk v6 v7 v14 wr => ∃ (k : Nat) (K2 : List Bytes) (lg2 : Lg), gk + k = n' ∧ v14 = .int .i64 k ∧ v7 = .int .i64 K2.length ∧ KeptAt w wr v6 K2 ∧ LogAt w wr L lg2 ∧ Holds lg2 K2 ∧ (∀ x ∈ K2, x.length ≤ 300) ∧ K2.length ≤ 20 * i + k ∧ Below w.heap.size w wr ∧ lg2.power ≤ 9223372036854775807)
                case atStart => exact ⟨0, K, m, rfl, rfl, rfl, hI.1, hI.2.1, HHM.out, HK3.out, by omega, hI.2.2, HMPW.out⟩
                case round =>
                  obtain ⟨k, K2, lg2, hgk, rfl, rfl, hk2, hlg2, hH2, hK32, hKn2, hB2, hpwm⟩ := hrel
                  have HK2 := Lib.hid hk2
                  have HLG2 := Lib.hid hlg2
                  have HH2 := Lib.hid hH2
                  have HK32 := Lib.hid hK32
                  have HB2 := Lib.hid hB2
                  have HGK := Lib.hid hgk
                  have HPM := Lib.hid hpwm
                  obtain ⟨A10, c10, vs10, hv10, hk10, hw10⟩ := hk2
                  obtain ⟨A11, c11, hr11, hc11, hc11', hy11⟩ := hlg2.data
                  have HY11 := Lib.hid hy11
                  have HR11 := Lib.hid hr11
                  have HKO := Lib.hid hk10
                  have HW10 := Lib.hid hw10
                  subst hv10
                  have hsz2 := hH2.size
                  have hcl10 := own_cap hk10
                  have hkk : k ≤ n' := by omega
                  have e0 : wr.cell? ⟨L, 0, none⟩ = some (.slice A11 lg2.data.length c11) := cell_of_row _ _ 0 _ _ _ hr11
                  have e1 : wr.cell? ⟨L, 1, none⟩ = some (.int .i64 lg2.power) := cell_of_row _ _ 1 _ _ _ hr11
                  have e2 : wr.cell? ⟨L, 2, none⟩ = some (.int .i64 lg2.count) := cell_of_row _ _ 2 _ _ _ hr11
                  have e3 : wr.cell? ⟨L, 3, none⟩ = some (.bool lg2.down) := cell_of_row _ _ 3 _ _ _ hr11
                  have hlL2 := row_lt hr11
                  clear hlg2 hH2 hK32 hB2 hgk hr11 hy11 hk10 hw10
                  by_cases hlt2 : k < n'
                  · have i2 : (k : Int) < (n' : Int) := by omega
                    cases hdn2 : lg2.down with
                    | true =>
                      rw [hdn2] at e3
                      have HDN := Lib.hid hdn2
                      clear hdn2
                      go_wp2_with fail
                      go_roundg g1
                      case measure => exact HG1.out.1
                      case rel => exact ⟨i + 1, K2, lg2, HG1.out.2, by go_num, rfl, HK2.out, HLG2.out, HH2.out, HK32.out, by omega, HB2.out, HPM.out⟩
                    | false =>
                      rw [hdn2] at e3
                      have HDN := Lib.hid hdn2
                      obtain ⟨q, hq⟩ : ∃ q, K2.length % n' = q := ⟨_, rfl⟩
                      have hqn : q < n' := by rw [← hq]; exact Nat.mod_lt _ (by omega)
                      have hmod : (K2.length : Int) % (n' : Int) = (q : Int) := by rw [← hq]; simp
                      obtain ⟨x, b2, o2, A12, c12, hx, hAe2, hbB2, cx, hx1, hx2, bx⟩ := (HT.out.to HB2.out).at_ hqn
                      have bx0 : Bys w w.heap.size A12 x.length x := by
                        obtain ⟨x', b3, o3, A13, c13, hx', hAe3, hbB3, cx', _, _, bx'⟩ := HT.out.at_ hqn
                        rw [hx] at hx'
                        injection hx' with hx'
                        subst hx'
                        rw [hAe2] at hAe3
                        injection hAe3 with hAe3
                        injection hAe3 with h31 h32
                        subst h31 h32
                        have := (HB2.out.cell (p := ⟨b2, o2 + q, none⟩) hbB3).trans cx'
                        rw [cx] at this
                        injection this with this
                        injection this with t1 t2 t3
                        subst t1
                        exact bx'
                      have hxl := H3.out x (List.mem_of_getElem? hx)
                      have hszK := sizes_kept HK32.out
                      have hadd := HH2.out.added hdn2 (p := x) (by omega) (by omega) (by omega)
                      have HADD := Lib.hid hadd
                      have HBX := Lib.hid bx0
                      have HPW2 := HH2.out.pow
                      have hpw3 := add_power (x := x) (M := 9223372036854775807) hpwm (by omega)
                      have HPW3 := Lib.hid hpw3
                      have KA := Lib.hid (add_any A11 A12 lg2.data.length c11 x.length c12 lg2.power lg2.count false lg2.data x wr HY11.out bx (by omega) hc11 hc11' (by omega) hx1 hpwm)
                      rw [show (⟨lg2.data, lg2.power, lg2.count, false⟩ : Lg) = lg2 from by rw [← hdn2]] at KA
                      have q1 : (q : Int) < (n' : Int) := by omega
                      have q2 : (0 : Int) ≤ (q : Int) := by omega
                      subst hAe2
                      clear hdn2 hq hx bx bx0 hszK hadd hpw3
                      go_wp2_with fail
                      rcases HADD.out with ⟨n2, hn2, hN2, hd2⟩ | ⟨n2, hn2, hN2, hd2⟩
                      · rw [hn2] at KA HPW3
                        refine KA.out.mono ?_
                        rintro e w8 ⟨A14, c14, rfl, ho14, hb14⟩
                        dsimp only at ho14 ⊢
                        have hd2' := Lib.hid hd2
                        clear hd2 hn2
                        have hbA := hb14
                        have HRT2 := Lib.hid hN2.right
                        have hsz3 := hN2.size
                        have hcp14 := own_cap ho14
                        have HO8b := Lib.hid (own_more (base' := w.heap.size) ho14 HB2.out.size)
                        have HB14 := Lib.hid hb14
                        clear hb14 ho14 hbA KA
                        go_upto_region 27 with (fail)
                        generalize hwB : World.alloc w8 _ = wB
                        have rB : wB.heap[w8.heap.size]? = some (.cells #[.slice A14 n2.data.length c14, .int .i64 n2.power, .int .i64 n2.count, .bool n2.down] 29 (0, 0)) := by rw [← hwB]; exact heap_at rfl
                        have hb8B : Below w8.heap.size w8 wB := by rw [← hwB]; go_grown
                        have HB8B := Lib.hid hb8B
                        have RB := Lib.hid rB
                        have d0 := cell_of_row _ _ 0 _ _ _ rB
                        have d1 := cell_of_row _ _ 1 _ _ _ rB
                        have d2 := cell_of_row _ _ 2 _ _ _ rB
                        have d3 : wB.cell? ⟨w8.heap.size, 3, none⟩ = some (.bool n2.down) := cell_of_row _ _ 3 _ _ _ rB
                        rw [hd2'.out] at d3
                        have KRT2 := Lib.hid (right_log A14 n2.data.length c14 n2.power n2.count n2.down n2.data wB ((Bys.of_own HO8b.out).to hb8B) (by omega) hcp14.1 hcp14.2)
                        rw [show rightB ⟨n2.data, n2.power, n2.count, n2.down⟩ = true from HRT2.out, hd2'.out] at KRT2
                        clear hwB rB hb8B
                        go_wp2_with fail
                        (with_reducible refine KRT2.out.mono ?_)
                        rintro e w9 ⟨rfl, hb9b⟩
                        have r16 := (hb9b.block w8.heap.size (row_lt RB.out)).trans RB.out
                        have hb89 : Below w8.heap.size w8 w9 := HB8B.out.trans (hb9b.mono HB8B.out.size)
                        have hb29 : Below wr.heap.size wr w9 := after HB14.out hb89
                        have HO9 := Lib.hid (own_kept HO8b.out hb89 (Nat.le_refl _))
                        have HKO9 := Lib.hid (own_kept HKO.out hb29 (Nat.le_refl _))
                        have HKA9 := Lib.hid (HK2.out.later hb29)
                        have RL9 := Lib.hid ((hb29.block L hlL2).trans HR11.out)
                        have HB9b := Lib.hid (HB2.out.trans (hb29.mono HB2.out.size))
                        have hs9 := HB9b.out.size
                        have d0 := cell_of_row _ _ 0 _ _ _ r16
                        have d1 := cell_of_row _ _ 1 _ _ _ r16
                        have d2 := cell_of_row _ _ 2 _ _ _ r16
                        have d3 : w9.cell? ⟨w8.heap.size, 3, none⟩ = some (.bool n2.down) := cell_of_row _ _ 3 _ _ _ r16
                        rw [hd2'.out] at d3 r16
                        have R16 := Lib.hid r16
                        clear hb9b r16 hb89 hb29 KRT2 e0 e1 e2 e3 cx hmod
                        go_wp2_with (at_builtin; refine elemText.list_append rfl (.tmp 148) (.tmp 150) rfl rfl (HKO9.out.alloc _) rfl (reads_one w9 _ _ rfl) (by simp [Value.oneCell']) (by unfold maxLen; omega) (by omega) (by simp; omega) ?_; intro v10 w10 hown10 hg10 hat10; obtain ⟨A15, c15, hv15, _⟩ := own_shape hown10; subst hv15; change (World.alloc w9 _).grownBy w10 (Value.slice A10 K2.length c10).ownBlock at hg10; have r16 := row_kept R16.out HKO9.out hg10 (by decide); have rL := row_kept RL9.out HKO9.out hg10 (by decide); have RLF := Lib.hid rL; have HOW10 := Lib.hid hown10; have HG10 := Lib.hid hg10; have d0 := cell_of_row _ _ 0 _ _ _ r16; have d1 := cell_of_row _ _ 1 _ _ _ r16; have d2 := cell_of_row _ _ 2 _ _ _ r16; have d3 := cell_of_row _ _ 3 _ _ _ r16; have l0 := cell_of_row _ _ 0 _ _ _ rL; have l1 := cell_of_row _ _ 1 _ _ _ rL; have l2 := cell_of_row _ _ 2 _ _ _ rL; have l3 := cell_of_row _ _ 3 _ _ _ rL; have lf0 := frozen_of_row _ _ 0 _ _ rL; have lf1 := frozen_of_row _ _ 1 _ _ rL; have lf2 := frozen_of_row _ _ 2 _ _ rL; have lf3 := frozen_of_row _ _ 3 _ _ rL; have ll := row_lt rL; clear r16 rL hown10 hg10 hat10)
                        have hkf := KeptAt.snoc HW10.out HOW10.out hx1 hx2 HBX.out
                        have hof : w10.ownsRow w.heap.size 5 1 (.slice A14 n2.data.length c14) n2.data.length (bys n2.data) := own_grown (HO9.out.alloc _) HG10.out fun q hq => own_ne HO9.out HKO9.out (by decide) hq
                        have hbf : Below w.heap.size w w10 := Below.grown (HB9b.out.alloc HB9b.out.size _) HG10.out (by have := HB9b.out.size; simp; omega) fun q hq => (HKO9.out.lt q hq).1
                        have hsl := store_log hkf RLF.out hof hbf hLw
                        rw [hd2'.out] at hsl
                        go_roundg (gk - 1)
                        case measure => have := HGK.out; omega
                        case rel => exact ⟨k + 1, K2 ++ [x], n2, by have := HGK.out; omega, by go_num, by simp, hsl.1, hsl.2.1, hN2, fun y hy => (List.mem_append.1 hy).elim (fun h => HK32.out y h) (fun h => by rw [List.mem_singleton.1 h]; exact hxl), by simp; omega, hsl.2.2, HPW3.out⟩
                      · rw [hn2] at KA HPW3
                        refine KA.out.mono ?_
                        rintro e w8 ⟨A14, c14, rfl, ho14, hb14⟩
                        dsimp only at ho14 ⊢
                        have hd2' := Lib.hid hd2
                        clear hd2 hn2
                        have hbA := hb14
                        have HRT2 := Lib.hid hN2.right
                        have hsz3 := hN2.size
                        have hcp14 := own_cap ho14
                        have HO8b := Lib.hid (own_more (base' := w.heap.size) ho14 HB2.out.size)
                        have HB14 := Lib.hid hb14
                        clear hb14 ho14 hbA KA
                        go_upto_region 27 with (fail)
                        generalize hwB : World.alloc w8 _ = wB
                        have rB : wB.heap[w8.heap.size]? = some (.cells #[.slice A14 n2.data.length c14, .int .i64 n2.power, .int .i64 n2.count, .bool n2.down] 29 (0, 0)) := by rw [← hwB]; exact heap_at rfl
                        have hb8B : Below w8.heap.size w8 wB := by rw [← hwB]; go_grown
                        have HB8B := Lib.hid hb8B
                        have RB := Lib.hid rB
                        have d0 := cell_of_row _ _ 0 _ _ _ rB
                        have d1 := cell_of_row _ _ 1 _ _ _ rB
                        have d2 := cell_of_row _ _ 2 _ _ _ rB
                        have d3 : wB.cell? ⟨w8.heap.size, 3, none⟩ = some (.bool n2.down) := cell_of_row _ _ 3 _ _ _ rB
                        rw [hd2'.out] at d3
                        have KRT2 := Lib.hid (right_log A14 n2.data.length c14 n2.power n2.count n2.down n2.data wB ((Bys.of_own HO8b.out).to hb8B) (by omega) hcp14.1 hcp14.2)
                        rw [show rightB ⟨n2.data, n2.power, n2.count, n2.down⟩ = true from HRT2.out, hd2'.out] at KRT2
                        clear hwB rB hb8B
                        go_wp2_with fail
                        (with_reducible refine KRT2.out.mono ?_)
                        rintro e w9 ⟨rfl, hb9b⟩
                        have r16 := (hb9b.block w8.heap.size (row_lt RB.out)).trans RB.out
                        have hb89 : Below w8.heap.size w8 w9 := HB8B.out.trans (hb9b.mono HB8B.out.size)
                        have hb29 : Below wr.heap.size wr w9 := after HB14.out hb89
                        have HO9 := Lib.hid (own_kept HO8b.out hb89 (Nat.le_refl _))
                        have HKO9 := Lib.hid (own_kept HKO.out hb29 (Nat.le_refl _))
                        have HKA9 := Lib.hid (HK2.out.later hb29)
                        have RL9 := Lib.hid ((hb29.block L hlL2).trans HR11.out)
                        have HB9b := Lib.hid (HB2.out.trans (hb29.mono HB2.out.size))
                        have hs9 := HB9b.out.size
                        have d0 := cell_of_row _ _ 0 _ _ _ r16
                        have d1 := cell_of_row _ _ 1 _ _ _ r16
                        have d2 := cell_of_row _ _ 2 _ _ _ r16
                        have d3 : w9.cell? ⟨w8.heap.size, 3, none⟩ = some (.bool n2.down) := cell_of_row _ _ 3 _ _ _ r16
                        rw [hd2'.out] at d3 r16
                        have R16 := Lib.hid r16
                        clear hb9b r16 hb89 hb29 KRT2 e0 e1 e2 e3 cx hmod
                        have l0 := cell_of_row _ _ 0 _ _ _ RL9.out
                        have l1 := cell_of_row _ _ 1 _ _ _ RL9.out
                        have l2 := cell_of_row _ _ 2 _ _ _ RL9.out
                        have l3 := cell_of_row _ _ 3 _ _ _ RL9.out
                        have lf0 := frozen_of_row _ _ 0 _ _ RL9.out
                        have lf1 := frozen_of_row _ _ 1 _ _ RL9.out
                        have lf2 := frozen_of_row _ _ 2 _ _ RL9.out
                        have lf3 := frozen_of_row _ _ 3 _ _ RL9.out
                        have ll := row_lt RL9.out
                        go_wp2_with fail
                        have hsl := store_log (HKA9.out) RL9.out HO9.out HB9b.out hLw
                        rw [hd2'.out] at hsl
                        go_roundg (gk - 1)
                        case measure => have := HGK.out; omega
                        case rel => exact ⟨k + 1, K2, n2, by have := HGK.out; omega, by go_num, rfl, hsl.1, hsl.2.1, hN2, HK32.out, by omega, hsl.2.2, HPW3.out⟩
                  · have i2 : ¬ (k : Int) < (n' : Int) := by omega
                    go_wp2_with fail
                    go_roundg g1
                    case measure => exact HG1.out.1
                    case rel => exact ⟨i + 1, K2, lg2, HG1.out.2, by go_num, rfl, HK2.out, HLG2.out, HH2.out, HK32.out, by omega, HB2.out, HPM.out⟩
              · rw [ho] at KO
                refine KO.out.mono ?_
                rintro e w5 ⟨A8, c8, A9, c9, vs9, rfl, ho8, ho9, ht9, hb9⟩
                dsimp only [Lg.zero, List.length_nil] at ho8 ⊢
                have HB9 := Lib.hid (HB8.out.trans (hb9.mono HB8.out.size))
                have HK9 := Lib.hid (HK8.out.later hb9)
                have HLG9 := Lib.hid (HLG8.out.later hb9)
                have hb95 : wc.heap.size ≤ w5.heap.size := hb9.size
                have hpi9 : w5.cell? ⟨b, o + i, none⟩ = some (.int .i64 pwi) := (hb9.cell (p := ⟨b, o + i, none⟩) (World.block_lt_of_cell? _ _ hpi8)).trans hpi8
                have f39 : w5.cell? ⟨L, 3, none⟩ = some (.bool lg.down) := (hb9.cell (p := ⟨L, 3, none⟩) hL8).trans f3
                rw [hdn] at f39
                have j1 : (pwi == 0) = true := by simpa using hp0
                have j2 : (pwi != 0) = false := by simpa using hp0
                have hL9 : L < w5.heap.size := by omega
                have hb99 : b < w5.heap.size := by have := World.block_lt_of_cell? _ _ hpi9; simpa using this
                clear hb9 ho8 ho9 ht9 hp0 hdn KO hpi8 f3 g0 g1
                go_wp2_with fail
                go_roundg (gk - 1)
                case measure => have := HGI.out; omega
                case rel => exact ⟨i + 1, K, lg, by have := HGI.out; omega, by go_num, rfl, HK9.out.later (by go_grown), HLG9.out.later (by go_grown), HHH.out, HK3.out, by omega, HB9.out.trans (Below.mono (show Below w5.heap.size w5 _ by go_grown) HB9.out.size), hlp⟩
        · have i2 : ¬ (i : Int) < (n : Int) := by omega
          have hop : ∃ m, restoreR lg (-1) = (⟨lg.data, -1⟩, 0) ∧ openR ⟨lg.data, -1⟩ = (m, K, 0) ∧ Holds m K ∧ m.down = false ∧ m.count = K.length := by
            rcases cutR_holds HHH.out (-1) with ⟨h1, _⟩ | ⟨_, h2, ⟨m, h3, h4, h5, h6⟩ | ⟨_, h3, _⟩⟩
            · omega
            · exact ⟨m, h2, h3, h4, h5, h6⟩
            · omega
          obtain ⟨m, hr1, ho1, hHm, hmd, hmc⟩ := hop
          have KR := Lib.hid (restore_any A5 lg.data.length c5 lg.power lg.count (-1) lg.down lg.data wr HY5.out (by omega) hc5 hc5')
          rw [show restoreR ⟨lg.data, lg.power, lg.count, lg.down⟩ (-1) = (⟨lg.data, -1⟩, 0) from hr1] at KR
          have KO := Lib.hid (fun W A7 c7 (hy : Bys W W.heap.size A7 lg.data.length lg.data) h1 h2 => open_any A7 lg.data.length c7 (-1) lg.data W hy (by omega) h1 h2 (by omega))
          rw [ho1] at KO
          have j1 : (m.count == (K.length : Int)) = true := by rw [hmc]; simp
          clear hr1 ho1 hHm hmd hmc hlt
          go_wp2_with fail
          (with_reducible refine KR.out.mono ?_)
          rintro e w5 ⟨A7, c7, rfl, ho7, hb7⟩
          dsimp only at ho7 ⊢
          have hcp := own_cap ho7
          have HY7 := Lib.hid (Bys.of_own ho7)
          have HB7 := Lib.hid hb7
          clear ho7 hb7
          go_wp2_with fail
          (with_reducible refine (KO.out _ A7 c7 (HY7.out.to (by go_grown)) hcp.1 hcp.2).mono ?_)
          rintro e w6 ⟨A8, c8, A9, c9, vs9, rfl, ho8, ho9, ht9, hb9⟩
          dsimp only at ho9 ht9 ⊢
          have hb56 : Below w5.heap.size w5 w6 := Below.trans (by go_grown) (hb9.mono (by simp))
          have HB56 := Lib.hid (after HB7.out hb56)
          have HB6 := Lib.hid (HB.out.trans (HB56.out.mono HB.out.size))
          have KT := Lib.hid (fun W (hW : Below w6.heap.size w6 W) => sameTexts_any A9 A6 K.length c9 K.length c6 K K W ((Tx.of_own ho9 ht9).to hW) ((HTX.out.to HB56.out).to hW) (by omega) (by omega))
          rw [show decide (K = K) = true from decide_eq_true rfl] at KT
          clear ho8 ho9 ht9 hb9 hb56 KO KR
          go_wp2_with fail
          (with_reducible refine (KT.out _ (by go_grown)).mono ?_)
          rintro e w7 ⟨rfl, hb10⟩
          have r20 := (hb10.block w6.heap.size (by simp)).trans (heap_at (w := w6) rfl)
          have d2 : w7.cell? ⟨w6.heap.size, 1 + 1, none⟩ = some (.int .i64 m.count) := cell_of_row _ _ 2 _ _ _ r20
          have d2' : w7.cell? ⟨w6.heap.size, 2, none⟩ = some (.int .i64 m.count) := cell_of_row _ _ 2 _ _ _ r20
          have HBF := Lib.hid (HB6.out.trans ((Below.trans (by go_grown) (hb10.mono (by simp)) : Below w6.heap.size w6 w7).mono HB6.out.size))
          clear hb10 r20 KT
          go_wp2_with fail
          go_ret
          exact ⟨rfl, HBF.out⟩
end Go.Proofs.Ytbkicepkkcambaa
