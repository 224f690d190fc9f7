/- JournalWrites: the walk. -/
import Derived.Test.YtbkicepkkcambaaJouRead
import Derived.Test.YtbkicepkkcambaaJouA
import Derived.Deep.Cut
namespace Go.Proofs.Ytbkicepkkcambaa
open Go.RowKit BigFrame Go.Shelf
set_option linter.unusedVariables false
set_option linter.unusedSimpArgs false

/-- A box that holds a store. -/
def Box (W : World) (T : Nat) (A : Option Addr) (n c : Nat) (p : Int) : Prop := W.heap[T]? = some (.cells #[.slice A n c, .int .i64 p] 27 (0, 0))
/-- What a written store lies as. -/
def Lies (W0 : World) (r : Sto × Int) (s7 s8 : Value) (wc : World) : Prop :=
  ∃ T A c, s7 = .pointer (some ⟨T, 0, none⟩) ∧ s8 = .int .i64 r.2 ∧ W0.heap.size ≤ T ∧ Box wc T A r.1.data.length c r.1.power ∧ r.1.data.length ≤ c ∧ c ≤ 9223372036854775807 ∧ Bys wc wc.heap.size A r.1.data.length r.1.data ∧ Below W0.heap.size W0 wc

/-- What writing a and b at once, and one after the other, comes to. -/
theorem two_parts {d a b : Bytes} {p : Int} (h1 : d.length ≤ 5000) (h2 : a.length ≤ 5000) (h3 : b.length ≤ 5000) (hok : stoOk ⟨d, p⟩ = true) (hp : p ≤ 9223372036854775807) :
    ∃ D P E D1 P1 E1, writeR ⟨d, p⟩ (a ++ b) = (⟨D, P⟩, E) ∧ writeR ⟨d, p⟩ a = (⟨D1, P1⟩, E1) ∧ D1.length ≤ 10000 ∧ P1 ≤ 9223372036854775807 ∧ (E1 = 0 → writeR ⟨D1, P1⟩ b = (⟨D, P⟩, E)) ∧ (E1 ≠ 0 → E1 = E ∧ D1 = D ∧ P1 = P) ∧
      ((E = 0 ∧ (p = -1 ∨ ((a.length : Int) + b.length ≤ p)) ∧ D.length = d.length + a.length + b.length) ∨ (E = 370 ∧ 0 ≤ p ∧ p < (a.length : Int) + b.length ∧ (D.length : Int) = d.length + p ∧ P = 0)) ∧ D.take d.length = d ∧ -1 ≤ P ∧ P ≤ 9223372036854775807 := by
  have hp0 : -1 ≤ p := by
    unfold stoOk at hok
    simp at hok
    exact hok.2
  have e1 : writeR ⟨d, p⟩ (a ++ b) = (wrote ⟨d, p⟩ (a ++ b), wroteE ⟨d, p⟩ (a ++ b)) := by
    unfold writeR; rw [if_neg (by simp [hok]), if_neg (by dsimp only; rw [List.length_append]; omega)]
  have e2 : writeR ⟨d, p⟩ a = (wrote ⟨d, p⟩ a, wroteE ⟨d, p⟩ a) := by
    unfold writeR; rw [if_neg (by simp [hok]), if_neg (by dsimp only; omega)]
  obtain ⟨t1, t2⟩ := wrote_two ⟨d, p⟩ a b
  refine ⟨(wrote ⟨d, p⟩ (a ++ b)).data, (wrote ⟨d, p⟩ (a ++ b)).power, wroteE ⟨d, p⟩ (a ++ b), (wrote ⟨d, p⟩ a).data, (wrote ⟨d, p⟩ a).power, wroteE ⟨d, p⟩ a, e1, e2, ?_, ?_, ?_, ?_, ?_, ?_, ?_⟩
  · unfold wrote
    dsimp only
    rw [List.length_append, List.length_take]
    omega
  · unfold wrote
    dsimp only
    have := canW_le p a.length
    split <;> omega
  · intro hE
    rw [if_neg (by simp [hE])] at t1 t2
    have hd1 : (wrote ⟨d, p⟩ a).data.length ≤ 10000 := by
      unfold wrote
      dsimp only
      rw [List.length_append, List.length_take]
      omega
    have hw := wrote_ok hE
    have hok1 : stoOk (wrote ⟨d, p⟩ a) = true := by
      unfold stoOk
      rw [decide_eq_true_iff]
      refine ⟨by omega, ?_⟩
      have hw2 := hw.2
      rw [hw.1]
      dsimp only at hw2 ⊢
      split <;> omega
    show writeR (wrote ⟨d, p⟩ a) b = (wrote ⟨d, p⟩ (a ++ b), wroteE ⟨d, p⟩ (a ++ b))
    unfold writeR
    rw [if_neg (by simp [hok1]), if_neg (by omega), t1, t2]
  · intro hE
    rw [if_pos hE] at t1 t2
    rw [t1, t2]
    exact ⟨rfl, rfl, rfl⟩
  · by_cases hE : wroteE ⟨d, p⟩ (a ++ b) = 0
    · left
      obtain ⟨h4, h5⟩ := wrote_ok hE
      rw [h4]
      dsimp only at h5 ⊢
      rw [List.length_append] at h5
      refine ⟨hE, by omega, ?_⟩
      rw [List.length_append, List.length_append]
      omega
    · right
      obtain ⟨h4, m, h5, h6, h7, h8⟩ := wrote_part hE
      rw [List.length_append] at h5
      dsimp only at h6 h7
      rw [h8]
      refine ⟨h4, h6, by omega, ?_, rfl⟩
      dsimp only
      rw [List.length_append, List.length_take, List.length_append]
      omega
  · unfold wrote
    dsimp only
    rw [List.take_left' rfl]
  · have hc := canW_le p (a ++ b).length
    unfold wrote
    dsimp only
    have hcw : 0 ≤ p → (canW p (a ++ b).length : Int) ≤ p := fun h => by unfold canW; rw [if_pos h]; omega
    constructor <;> split <;> omega

set_option maxRecDepth 100000 in
set_option maxHeartbeats 4000000 in
theorem writes_walk (A A' A'' : Option Addr) (n c n' c' n'' c'' : Nat) (s : Sto) (a b : Bytes) (w : World) (h : Bys w w.heap.size A n s.data) (ha : Bys w w.heap.size A' n' a) (hb0 : Bys w w.heap.size A'' n'' b) (hnc : n ≤ c) (hc63 : c ≤ 9223372036854775807) (hnc' : n' ≤ c') (hc63' : c' ≤ 9223372036854775807) (hnc'' : n'' ≤ c'') (hc63'' : c'' ≤ 9223372036854775807) (hp : -9223372036854775808 ≤ s.power ∧ s.power ≤ 9223372036854775807) :
    Calls Try.prog 8 #[.agg #[.slice A n c, .int .i64 s.power], .slice A' n' c', .slice A'' n'' c''] w fun e w' => e = .returned (.bool true) ∧ Below w.heap.size w w' := by
  obtain ⟨d, p⟩ := s
  dsimp only at *
  have HH := Lib.hid h
  have HA0 := Lib.hid ha
  have HB0 := Lib.hid hb0
  by_cases hbig : 5000 < n ∨ 5000 < n' ∨ 5000 < n'' ∨ stoOk ⟨d, p⟩ = false
  · clear h ha hb0
    by_cases h1 : 5000 < n
    · have i1 : (5000 : Int) < n := by omega
      clear hbig h1
      go_enter Try.func8, Try.ntmps8
      go_wp2_with fail
      refine (awake_any _).mono ?_
      rintro e w0 ⟨rfl, hb1⟩
      have r0 := (hb1.block w.heap.size (by first | omega | (simp; done) | (simp; omega))).trans (heap_at (w := w) rfl)
      have HB00 := Lib.hid (Below.trans (by go_grown) (hb1.mono (by first | omega | (simp; done) | (simp; omega))) : Below w.heap.size w w0)
      have e0 : w0.cell? ⟨w.heap.size, 0, none⟩ = some (.slice A n c) := cell_of_row _ _ 0 _ _ _ r0
      have e1 : w0.cell? ⟨w.heap.size, 1, none⟩ = some (.int .i64 p) := cell_of_row _ _ 1 _ _ _ r0
      clear r0 hb1
      go_wp2_with fail
      go_ret
      exact ⟨rfl, HB00.out⟩
    · have i1 : ¬ (5000 : Int) < n := by omega
      by_cases h2 : 5000 < n'
      · have i2 : (5000 : Int) < n' := by omega
        clear hbig h1 h2
        go_enter Try.func8, Try.ntmps8
        go_wp2_with fail
        refine (awake_any _).mono ?_
        rintro e w0 ⟨rfl, hb1⟩
        have r0 := (hb1.block w.heap.size (by first | omega | (simp; done) | (simp; omega))).trans (heap_at (w := w) rfl)
        have HB00 := Lib.hid (Below.trans (by go_grown) (hb1.mono (by first | omega | (simp; done) | (simp; omega))) : Below w.heap.size w w0)
        have e0 : w0.cell? ⟨w.heap.size, 0, none⟩ = some (.slice A n c) := cell_of_row _ _ 0 _ _ _ r0
        have e1 : w0.cell? ⟨w.heap.size, 1, none⟩ = some (.int .i64 p) := cell_of_row _ _ 1 _ _ _ r0
        clear r0 hb1
        go_wp2_with fail
        go_ret
        exact ⟨rfl, HB00.out⟩
      · have i2 : ¬ (5000 : Int) < n' := by omega
        by_cases h3 : 5000 < n''
        · have i3 : (5000 : Int) < n'' := by omega
          clear hbig h1 h2 h3
          go_enter Try.func8, Try.ntmps8
          go_wp2_with fail
          refine (awake_any _).mono ?_
          rintro e w0 ⟨rfl, hb1⟩
          have r0 := (hb1.block w.heap.size (by first | omega | (simp; done) | (simp; omega))).trans (heap_at (w := w) rfl)
          have HB00 := Lib.hid (Below.trans (by go_grown) (hb1.mono (by first | omega | (simp; done) | (simp; omega))) : Below w.heap.size w w0)
          have e0 : w0.cell? ⟨w.heap.size, 0, none⟩ = some (.slice A n c) := cell_of_row _ _ 0 _ _ _ r0
          have e1 : w0.cell? ⟨w.heap.size, 1, none⟩ = some (.int .i64 p) := cell_of_row _ _ 1 _ _ _ r0
          clear r0 hb1
          go_wp2_with fail
          go_ret
          exact ⟨rfl, HB00.out⟩
        · have i3 : ¬ (5000 : Int) < n'' := by omega
          have hok : stoOk ⟨d, p⟩ = false := by
            rcases hbig with h | h | h | h
            · exact absurd h h1
            · exact absurd h h2
            · exact absurd h h3
            · exact h
          have HOK := Lib.hid hok
          clear hbig h2 h3 hok
          go_enter Try.func8, Try.ntmps8
          go_wp2_with fail
          refine (awake_any _).mono ?_
          rintro e w0 ⟨rfl, hb1⟩
          have r0 := (hb1.block w.heap.size (by first | omega | (simp; done) | (simp; omega))).trans (heap_at (w := w) rfl)
          have HB00 := Lib.hid (Below.trans (by go_grown) (hb1.mono (by first | omega | (simp; done) | (simp; omega))) : Below w.heap.size w w0)
          have e0 : w0.cell? ⟨w.heap.size, 0, none⟩ = some (.slice A n c) := cell_of_row _ _ 0 _ _ _ r0
          have e1 : w0.cell? ⟨w.heap.size, 1, none⟩ = some (.int .i64 p) := cell_of_row _ _ 1 _ _ _ r0
          clear r0 hb1
          go_wp2_with fail
          refine (valid_sto A n c d p w0 (HH.out.to HB00.out) (by omega)).mono ?_
          rintro e w1 ⟨rfl, hb2⟩
          rw [HOK.out]
          go_wp2_with fail
          go_ret
          exact ⟨rfl, HB00.out.trans (hb2.mono HB00.out.size)⟩
  · have g1 : n ≤ 5000 := by omega
    have g2 : n' ≤ 5000 := by omega
    have g3 : n'' ≤ 5000 := by omega
    have hok : stoOk ⟨d, p⟩ = true := by
      cases hx : stoOk ⟨d, p⟩
      · exact absurd (.inr (.inr (.inr hx))) hbig
      · rfl
    have HOK := Lib.hid hok
    have i1 : (n : Int) ≤ 5000 := by omega
    have i2 : (n' : Int) ≤ 5000 := by omega
    have i3 : (n'' : Int) ≤ 5000 := by omega
    clear h ha hb0 hbig hok
    go_enter Try.func8, Try.ntmps8
    go_wp2_with fail
    refine (awake_any _).mono ?_
    rintro e w0 ⟨rfl, hb1⟩
    have r0 := (hb1.block w.heap.size (by first | omega | (simp; done) | (simp; omega))).trans (heap_at (w := w) rfl)
    have HB00 := Lib.hid (Below.trans (by go_grown) (hb1.mono (by first | omega | (simp; done) | (simp; omega))) : Below w.heap.size w w0)
    have e0 : w0.cell? ⟨w.heap.size, 0, none⟩ = some (.slice A n c) := cell_of_row _ _ 0 _ _ _ r0
    have e1 : w0.cell? ⟨w.heap.size, 1, none⟩ = some (.int .i64 p) := cell_of_row _ _ 1 _ _ _ r0
    have R0 := Lib.hid r0
    clear r0 hb1
    go_wp2_with fail
    refine (valid_sto A n c d p w0 (HH.out.to HB00.out) (by omega)).mono ?_
    rintro e w1 ⟨rfl, hb2⟩
    rw [HOK.out]
    have HB1 := Lib.hid (HB00.out.trans (hb2.mono HB00.out.size))
    have r1 := (hb2.block w.heap.size (row_lt R0.out)).trans R0.out
    have R1 := Lib.hid r1
    have e0 : w1.cell? ⟨w.heap.size, 0, none⟩ = some (.slice A n c) := cell_of_row _ _ 0 _ _ _ r1
    have e1 : w1.cell? ⟨w.heap.size, 1, none⟩ = some (.int .i64 p) := cell_of_row _ _ 1 _ _ _ r1
    have l0 := row_lt r1
    clear r1 hb2
    have HA := Lib.hid (HA0.out.to HB1.out)
    have HBB := Lib.hid (HB0.out.to HB1.out)
    have HS := Lib.hid (HH.out.to HB1.out)
    have KEEP : Hid (∀ W', Below w1.heap.size w1 W' → W'.cell? ⟨w.heap.size, 0, none⟩ = some (.slice A n c) ∧ W'.cell? ⟨w.heap.size, 1, none⟩ = some (.int .i64 p)) :=
      Lib.hid fun W' hW' => ⟨(hW'.cell (p := ⟨w.heap.size, 0, none⟩) l0).trans e0, (hW'.cell (p := ⟨w.heap.size, 1, none⟩) l0).trans e1⟩
    have KW : Hid (∀ W' A1 m c1, Below w1.heap.size w1 W' → Bys W' W'.heap.size A1 m (a ++ b) → m ≤ c1 → c1 ≤ 9223372036854775807 → m ≤ 10000 → Calls Try.prog 27 #[.agg #[.slice A n c, .int .i64 p], .slice A1 m c1] W' (GivesSto W' (writeR ⟨d, p⟩ (a ++ b)))) :=
      Lib.hid fun W' A1 m c1 hW hy h1 h2 h3 => write_any A A1 n c m c1 p d (a ++ b) W' (HS.out.to hW) hy (by omega) (by omega) h1 h2 hp.2
    go_upto_region 5 with (fail)
    go_cut [7, 8] from 14 (fun s7 s8 wc => Lies w1 (writeR ⟨d, p⟩ (a ++ b)) s7 s8 wc)
    case first =>
      refine wp_region_held_drew (S := fun W' => W'.cell? ⟨w.heap.size, 0, none⟩ = some (.slice A n c) ∧ W'.cell? ⟨w.heap.size, 1, none⟩ = some (.int .i64 p)) (by kernel_rfl) (KEEP.out _ (by go_grown)) (fun hS => ?_)
      have hb : Below w1.heap.size w1 w1.drew := by go_grown
      clear e0 e1
      refine wpAnyH_take (i := 0) (oi := ⟨some 38, _, _, _, _, _⟩) (v := ?_) rfl (by kernel_rfl) (by kernel_rfl) (by kernel_rfl) (fun _ _ _ h => h) (Or.inl ⟨by rfl, ?_⟩) hS ?_
      rotate_left
      · (intro _ hW; obtain ⟨hW0, hW1⟩ := hW; go_simp; try (with_reducible rfl))
      try simp only [Act.put, List.setIfInBounds_toArray, List.set_cons_zero, List.set_cons_succ]
      refine wpAnyH_take (i := 2) (oi := ⟨some 40, _, _, _, _, _⟩) (v := ?_) rfl (by kernel_rfl) (by kernel_rfl) (by kernel_rfl) (fun _ _ _ h => h) (Or.inl ⟨by rfl, ?_⟩) hS ?_
      rotate_left
      · (intro _ hW; obtain ⟨hW0, hW1⟩ := hW; go_simp; try (with_reducible rfl))
      try simp only [Act.put, List.setIfInBounds_toArray, List.set_cons_zero, List.set_cons_succ]
      refine wpAnyH_take (i := 4) (oi := ⟨some 42, _, _, _, _, _⟩) (v := ?_) rfl (by kernel_rfl) (by kernel_rfl) (by kernel_rfl) (fun _ _ _ h => h) (Or.inl ⟨by rfl, ?_⟩) hS ?_
      rotate_left
      · (intro _ hW; obtain ⟨hW0, hW1⟩ := hW; go_simp; try (with_reducible rfl))
      try simp only [Act.put, List.setIfInBounds_toArray, List.set_cons_zero, List.set_cons_succ]
      refine wpAnyH_ready (rs := [1, 10]) (by kernel_rfl) (by simp) ?_
      refine AllReadyH.cons rfl (fun K hK => ?_) (AllReadyH.cons rfl (fun K hK => ?_) AllReadyH.nil)
      · go_simp
        have ho := World.ownsRow_lit (base := w1.heap.size) (e := 5) (size := 1) (w1.drew) #[] 0 (by first | omega | (simp; done) | (simp; omega)) (by unfold maxLen; omega) rfl
        try simp only [World.size_alloc] at ho
        replace hb := hb.alloc (by first | omega | (simp; done) | (simp; omega)) (.cells #[] 5)
        try replace hTr := (Below.heap_alloc _ _ (.cells #[] 5) (row_lt hTr)).trans hTr
        refine hK.out _ _ ?_ (fun hS => ?_)
        · exact KEEP.out _ hb
        clear hK K
        try simp only [Act.put, List.setIfInBounds_toArray, List.set_cons_zero, List.set_cons_succ, Nat.zero_add]
        refine wpAnyH_ready (rs := [3, 10]) (by kernel_rfl) (by simp) ?_
        refine AllReadyH.cons rfl (fun K hK => ?_) (AllReadyH.cons rfl (fun K hK => ?_) AllReadyH.nil)
        · refine step_lift (by rfl) ?_
          refine elemByte.wp_append (.tmp 39) (.tmp 40) rfl rfl ho rfl ((HA.out.to hb).reads) (bys_one _) (by unfold maxLen; omega) (by omega) (by first | omega | (simp; done) | (simp; omega)) ?_
          intro v2 w2 hown2 hg2 hat2
          obtain ⟨A2, c2, hv2, _⟩ := own_shape hown2
          subst hv2
          try replace hTr := (hg2.block _ (row_lt hTr) (fun e => row_ne hTr ho (by decide) e.symm)).trans hTr
          replace hb := Below.grown hb hg2 (by first | omega | (simp; done) | (simp; omega)) (fun k hk => (ho.lt k hk).1)
          replace ho := hown2
          simp only [Nat.zero_add, List.nil_append] at ho
          have hs2 := hb.size
          clear hg2 hat2 hown2
          refine hK.out _ _ ?_ (fun hS => ?_)
          · exact KEEP.out _ hb
          clear hK K
          try simp only [Act.put, List.setIfInBounds_toArray, List.set_cons_zero, List.set_cons_succ, Nat.zero_add]
          refine wpAnyH_ready (rs := [5, 10]) (by kernel_rfl) (by simp) ?_
          refine AllReadyH.cons rfl (fun K hK => ?_) (AllReadyH.cons rfl (fun K hK => ?_) AllReadyH.nil)
          · refine step_lift (by rfl) ?_
            refine elemByte.wp_append (.tmp 41) (.tmp 42) rfl rfl ho rfl ((HBB.out.to hb).reads) (bys_one _) (by unfold maxLen; omega) (by omega) (by first | omega | (simp; done) | (simp; omega)) ?_
            intro v3 w3 hown3 hg3 hat3
            obtain ⟨A3, c3, hv3, _⟩ := own_shape hown3
            subst hv3
            try replace hTr := (hg3.block _ (row_lt hTr) (fun e => row_ne hTr ho (by decide) e.symm)).trans hTr
            replace hb := Below.grown hb hg3 (by first | omega | (simp; done) | (simp; omega)) (fun k hk => (ho.lt k hk).1)
            replace ho := hown3
            have hs3 := hb.size
            clear hg3 hat3 hown3
            refine hK.out _ _ ?_ (fun hS => ?_)
            · exact KEEP.out _ hb
            clear hK K
            try simp only [Act.put, List.setIfInBounds_toArray, List.set_cons_zero, List.set_cons_succ, Nat.zero_add]
            refine wpAnyH_ready (rs := [6, 10]) (by kernel_rfl) (by simp) ?_
            refine AllReadyH.cons rfl (fun K hK => ?_) (AllReadyH.cons rfl (fun K hK => ?_) AllReadyH.nil)
            · have hcp := own_cap ho
              rw [← bys_append] at ho
              have hby := Bys.of_own ho
              go_simp
              go_at_call 27
              (with_reducible refine (KW.out _ A3 _ c3 hb hby hcp.1 hcp.2 (by omega)).mono ?_)
              rintro e w4 ⟨A4, c4, rfl, hoW, hb4⟩
              try replace hTr := (hb4.block _ (row_lt hTr)).trans hTr
              replace hb := hb.trans (hb4.mono hb.size)
              have hs4 := hb.size
              replace hoW := own_more (base' := w1.heap.size) hoW (by first | omega | (simp; done) | (simp; omega))
              refine hK.out _ _ ?_ (fun hS => ?_)
              · exact KEEP.out _ hb
              clear hK K
              try simp only [Act.put, List.setIfInBounds_toArray, List.set_cons_zero, List.set_cons_succ, Nat.zero_add]
              refine wpAnyH_take (i := 7) (oi := ⟨some 37, _, _, _, _, _⟩) (v := ?_) rfl (by kernel_rfl) (by kernel_rfl) (by kernel_rfl) (fun _ _ _ h => h) (Or.inl ⟨by rfl, ?_⟩) hS ?_
              rotate_left
              · (intro _ hW; obtain ⟨hW0, hW1⟩ := hW; go_simp; try (with_reducible rfl))
              try simp only [Act.put, List.setIfInBounds_toArray, List.set_cons_zero, List.set_cons_succ]
              refine wpAnyH_take (i := 8) (oi := ⟨some 45, _, _, _, _, _⟩) (v := ?_) rfl (by kernel_rfl) (by kernel_rfl) (by kernel_rfl) (fun _ _ _ h => h) (Or.inl ⟨by rfl, ?_⟩) hS ?_
              rotate_left
              · (intro _ hW; obtain ⟨hW0, hW1⟩ := hW; go_simp; try (with_reducible rfl))
              try simp only [Act.put, List.setIfInBounds_toArray, List.set_cons_zero, List.set_cons_succ]
              refine wpAnyH_take (i := 9) (oi := ⟨some 46, _, _, _, _, _⟩) (v := ?_) rfl (by kernel_rfl) (by kernel_rfl) (by kernel_rfl) (fun _ _ _ h => h) (Or.inl ⟨by rfl, ?_⟩) hS ?_
              rotate_left
              · (intro _ hW; obtain ⟨hW0, hW1⟩ := hW; go_simp; try (with_reducible rfl))
              try simp only [Act.put, List.setIfInBounds_toArray, List.set_cons_zero, List.set_cons_succ]
              refine wpAnyH_ready (rs := [10]) (by kernel_rfl) (by simp) ?_
              refine AllReadyH.cons rfl (fun K hK => ?_) AllReadyH.nil
              go_simp
              have hTr := (heap_at (w := w4) (o := .cells #[.slice none 0 0, .int .i64 0] 27) rfl)
              have hTl : w1.heap.size ≤ (w4).heap.size := (by first | omega | (simp; done) | (simp; omega))
              try simp only [World.size_alloc] at hTr hTl
              replace hb := hb.alloc (by first | omega | (simp; done) | (simp; omega)) (.cells #[.slice none 0 0, .int .i64 0] 27)
              try replace ho := ho.alloc (.cells #[.slice none 0 0, .int .i64 0] 27)
              try replace hoW := hoW.alloc (.cells #[.slice none 0 0, .int .i64 0] 27)
              refine hK.out _ _ ?_ (fun hS => ?_)
              · exact KEEP.out _ hb
              clear hK K
              try simp only [Act.put, List.setIfInBounds_toArray, List.set_cons_zero, List.set_cons_succ, Nat.zero_add]
              obtain ⟨wX, hwX⟩ : ∃ wX, wX = w4.alloc (.cells #[.slice none 0 0, .int .i64 0] 27) := ⟨_, rfl⟩
              rw [← hwX]
              obtain ⟨T, hT⟩ : ∃ T, T = w4.heap.size := ⟨_, rfl⟩
              rw [← hT]
              replace hTr : wX.heap[T]? = some (.cells #[.slice none 0 0, .int .i64 0] 27 (0, 0)) := by rw [hwX, hT]; exact hTr
              replace hTl : w1.heap.size ≤ T := by rw [hT]; exact hTl
              replace hoW : wX.ownsRow w1.heap.size 5 1 (.slice A4 (writeR ⟨d, p⟩ (a ++ b)).1.data.length c4) (writeR ⟨d, p⟩ (a ++ b)).1.data.length (bys (writeR ⟨d, p⟩ (a ++ b)).1.data) := by rw [hwX]; exact hoW
              replace hb : Below w1.heap.size w1 wX := by rw [hwX]; exact hb
              have t0 := cell_of_row _ _ 0 _ _ _ hTr
              have t1 := cell_of_row _ _ 1 _ _ _ hTr
              have tf0 := frozen_of_row _ _ 0 _ _ hTr
              have tf1 := frozen_of_row _ _ 1 _ _ hTr
              have tl := row_lt hTr
              have HTR := Lib.hid hTr
              have HOW := Lib.hid hoW
              have HBX := Lib.hid hb
              have hTl0 : w.heap.size < T := by omega
              clear hT hwX hTr hoW
              refine wpAnyH_ready (rs := [11]) (by kernel_rfl) (by simp) ?_
              refine AllReadyH.cons rfl (fun K hK => ?_) AllReadyH.nil
              go_simp
              refine hK.out _ _ (KEEP.out _ ((hb.setCell (by dsimp only; omega) _).setCell (by dsimp only; omega) _)) (fun hS => ?_)
              clear hK K
              try simp only [Act.put, List.setIfInBounds_toArray, List.set_cons_zero, List.set_cons_succ]
              refine wpAnyH_take (i := 12) (oi := ⟨some 8, _, _, _, _, _⟩) (v := ?_) rfl (by kernel_rfl) (by kernel_rfl) (by kernel_rfl) (fun _ _ _ h => h) (Or.inl ⟨by rfl, ?_⟩) hS ?_
              rotate_left
              · (intro _ hW; obtain ⟨hW0, hW1⟩ := hW; go_simp; try (with_reducible rfl))
              try simp only [Act.put, List.setIfInBounds_toArray, List.set_cons_zero, List.set_cons_succ]
              refine wpAnyH_done (by kernel_rfl) ?_ _
              clear hS t0 t1 tf0 tf1 tl
              go_wp2_with fail
              go_meet
              case rel =>
                refine ⟨T, A4, c4, rfl, rfl, hTl, set_row (set_row HTR.out _) _, (own_cap HOW.out).1, (own_cap HOW.out).2, Bys.of_own (own_set (own_set HOW.out ?_ _) ?_ _), (HBX.out.setCell (by dsimp only; omega) _).setCell (by dsimp only; omega) _⟩
                all_goals exact fun k hk e => row_ne HTR.out HOW.out (by decide) (hk.trans (congrArg some e))
            · go_simp
              have hTr := (heap_at (w := w3) (o := .cells #[.slice none 0 0, .int .i64 0] 27) rfl)
              have hTl : w1.heap.size ≤ (w3).heap.size := (by first | omega | (simp; done) | (simp; omega))
              try simp only [World.size_alloc] at hTr hTl
              replace hb := hb.alloc (by first | omega | (simp; done) | (simp; omega)) (.cells #[.slice none 0 0, .int .i64 0] 27)
              try replace ho := ho.alloc (.cells #[.slice none 0 0, .int .i64 0] 27)
              try replace hoW := hoW.alloc (.cells #[.slice none 0 0, .int .i64 0] 27)
              refine hK.out _ _ ?_ (fun hS => ?_)
              · exact KEEP.out _ hb
              clear hK K
              try simp only [Act.put, List.setIfInBounds_toArray, List.set_cons_zero, List.set_cons_succ, Nat.zero_add]
              refine wpAnyH_ready (rs := [6]) (by kernel_rfl) (by simp) ?_
              refine AllReadyH.cons rfl (fun K hK => ?_) AllReadyH.nil
              have hcp := own_cap ho
              rw [← bys_append] at ho
              have hby := Bys.of_own ho
              go_simp
              go_at_call 27
              (with_reducible refine (KW.out _ A3 _ c3 hb hby hcp.1 hcp.2 (by omega)).mono ?_)
              rintro e w4 ⟨A4, c4, rfl, hoW, hb4⟩
              try replace hTr := (hb4.block _ (row_lt hTr)).trans hTr
              replace hb := hb.trans (hb4.mono hb.size)
              have hs4 := hb.size
              replace hoW := own_more (base' := w1.heap.size) hoW (by first | omega | (simp; done) | (simp; omega))
              refine hK.out _ _ ?_ (fun hS => ?_)
              · exact KEEP.out _ hb
              clear hK K
              try simp only [Act.put, List.setIfInBounds_toArray, List.set_cons_zero, List.set_cons_succ, Nat.zero_add]
              refine wpAnyH_take (i := 7) (oi := ⟨some 37, _, _, _, _, _⟩) (v := ?_) rfl (by kernel_rfl) (by kernel_rfl) (by kernel_rfl) (fun _ _ _ h => h) (Or.inl ⟨by rfl, ?_⟩) hS ?_
              rotate_left
              · (intro _ hW; obtain ⟨hW0, hW1⟩ := hW; go_simp; try (with_reducible rfl))
              try simp only [Act.put, List.setIfInBounds_toArray, List.set_cons_zero, List.set_cons_succ]
              refine wpAnyH_take (i := 8) (oi := ⟨some 45, _, _, _, _, _⟩) (v := ?_) rfl (by kernel_rfl) (by kernel_rfl) (by kernel_rfl) (fun _ _ _ h => h) (Or.inl ⟨by rfl, ?_⟩) hS ?_
              rotate_left
              · (intro _ hW; obtain ⟨hW0, hW1⟩ := hW; go_simp; try (with_reducible rfl))
              try simp only [Act.put, List.setIfInBounds_toArray, List.set_cons_zero, List.set_cons_succ]
              refine wpAnyH_take (i := 9) (oi := ⟨some 46, _, _, _, _, _⟩) (v := ?_) rfl (by kernel_rfl) (by kernel_rfl) (by kernel_rfl) (fun _ _ _ h => h) (Or.inl ⟨by rfl, ?_⟩) hS ?_
              rotate_left
              · (intro _ hW; obtain ⟨hW0, hW1⟩ := hW; go_simp; try (with_reducible rfl))
              try simp only [Act.put, List.setIfInBounds_toArray, List.set_cons_zero, List.set_cons_succ]
              obtain ⟨wX, hwX⟩ : ∃ wX, wX = w4 := ⟨_, rfl⟩
              rw [← hwX]
              obtain ⟨T, hT⟩ : ∃ T, T = w3.heap.size := ⟨_, rfl⟩
              rw [← hT]
              replace hTr : wX.heap[T]? = some (.cells #[.slice none 0 0, .int .i64 0] 27 (0, 0)) := by rw [hwX, hT]; exact hTr
              replace hTl : w1.heap.size ≤ T := by rw [hT]; exact hTl
              replace hoW : wX.ownsRow w1.heap.size 5 1 (.slice A4 (writeR ⟨d, p⟩ (a ++ b)).1.data.length c4) (writeR ⟨d, p⟩ (a ++ b)).1.data.length (bys (writeR ⟨d, p⟩ (a ++ b)).1.data) := by rw [hwX]; exact hoW
              replace hb : Below w1.heap.size w1 wX := by rw [hwX]; exact hb
              have t0 := cell_of_row _ _ 0 _ _ _ hTr
              have t1 := cell_of_row _ _ 1 _ _ _ hTr
              have tf0 := frozen_of_row _ _ 0 _ _ hTr
              have tf1 := frozen_of_row _ _ 1 _ _ hTr
              have tl := row_lt hTr
              have HTR := Lib.hid hTr
              have HOW := Lib.hid hoW
              have HBX := Lib.hid hb
              have hTl0 : w.heap.size < T := by omega
              clear hT hwX hTr hoW
              refine wpAnyH_ready (rs := [11]) (by kernel_rfl) (by simp) ?_
              refine AllReadyH.cons rfl (fun K hK => ?_) AllReadyH.nil
              go_simp
              refine hK.out _ _ (KEEP.out _ ((hb.setCell (by dsimp only; omega) _).setCell (by dsimp only; omega) _)) (fun hS => ?_)
              clear hK K
              try simp only [Act.put, List.setIfInBounds_toArray, List.set_cons_zero, List.set_cons_succ]
              refine wpAnyH_take (i := 12) (oi := ⟨some 8, _, _, _, _, _⟩) (v := ?_) rfl (by kernel_rfl) (by kernel_rfl) (by kernel_rfl) (fun _ _ _ h => h) (Or.inl ⟨by rfl, ?_⟩) hS ?_
              rotate_left
              · (intro _ hW; obtain ⟨hW0, hW1⟩ := hW; go_simp; try (with_reducible rfl))
              try simp only [Act.put, List.setIfInBounds_toArray, List.set_cons_zero, List.set_cons_succ]
              refine wpAnyH_done (by kernel_rfl) ?_ _
              clear hS t0 t1 tf0 tf1 tl
              go_wp2_with fail
              go_meet
              case rel =>
                refine ⟨T, A4, c4, rfl, rfl, hTl, set_row (set_row HTR.out _) _, (own_cap HOW.out).1, (own_cap HOW.out).2, Bys.of_own (own_set (own_set HOW.out ?_ _) ?_ _), (HBX.out.setCell (by dsimp only; omega) _).setCell (by dsimp only; omega) _⟩
                all_goals exact fun k hk e => row_ne HTR.out HOW.out (by decide) (hk.trans (congrArg some e))
          · go_simp
            have hTr := (heap_at (w := w2) (o := .cells #[.slice none 0 0, .int .i64 0] 27) rfl)
            have hTl : w1.heap.size ≤ (w2).heap.size := (by first | omega | (simp; done) | (simp; omega))
            try simp only [World.size_alloc] at hTr hTl
            replace hb := hb.alloc (by first | omega | (simp; done) | (simp; omega)) (.cells #[.slice none 0 0, .int .i64 0] 27)
            try replace ho := ho.alloc (.cells #[.slice none 0 0, .int .i64 0] 27)
            try replace hoW := hoW.alloc (.cells #[.slice none 0 0, .int .i64 0] 27)
            refine hK.out _ _ ?_ (fun hS => ?_)
            · exact KEEP.out _ hb
            clear hK K
            try simp only [Act.put, List.setIfInBounds_toArray, List.set_cons_zero, List.set_cons_succ, Nat.zero_add]
            refine wpAnyH_ready (rs := [5]) (by kernel_rfl) (by simp) ?_
            refine AllReadyH.cons rfl (fun K hK => ?_) AllReadyH.nil
            refine step_lift (by rfl) ?_
            refine elemByte.wp_append (.tmp 41) (.tmp 42) rfl rfl ho rfl ((HBB.out.to hb).reads) (bys_one _) (by unfold maxLen; omega) (by omega) (by first | omega | (simp; done) | (simp; omega)) ?_
            intro v3 w3 hown3 hg3 hat3
            obtain ⟨A3, c3, hv3, _⟩ := own_shape hown3
            subst hv3
            try replace hTr := (hg3.block _ (row_lt hTr) (fun e => row_ne hTr ho (by decide) e.symm)).trans hTr
            replace hb := Below.grown hb hg3 (by first | omega | (simp; done) | (simp; omega)) (fun k hk => (ho.lt k hk).1)
            replace ho := hown3
            have hs3 := hb.size
            clear hg3 hat3 hown3
            refine hK.out _ _ ?_ (fun hS => ?_)
            · exact KEEP.out _ hb
            clear hK K
            try simp only [Act.put, List.setIfInBounds_toArray, List.set_cons_zero, List.set_cons_succ, Nat.zero_add]
            refine wpAnyH_ready (rs := [6]) (by kernel_rfl) (by simp) ?_
            refine AllReadyH.cons rfl (fun K hK => ?_) AllReadyH.nil
            have hcp := own_cap ho
            rw [← bys_append] at ho
            have hby := Bys.of_own ho
            go_simp
            go_at_call 27
            (with_reducible refine (KW.out _ A3 _ c3 hb hby hcp.1 hcp.2 (by omega)).mono ?_)
            rintro e w4 ⟨A4, c4, rfl, hoW, hb4⟩
            try replace hTr := (hb4.block _ (row_lt hTr)).trans hTr
            replace hb := hb.trans (hb4.mono hb.size)
            have hs4 := hb.size
            replace hoW := own_more (base' := w1.heap.size) hoW (by first | omega | (simp; done) | (simp; omega))
            refine hK.out _ _ ?_ (fun hS => ?_)
            · exact KEEP.out _ hb
            clear hK K
            try simp only [Act.put, List.setIfInBounds_toArray, List.set_cons_zero, List.set_cons_succ, Nat.zero_add]
            refine wpAnyH_take (i := 7) (oi := ⟨some 37, _, _, _, _, _⟩) (v := ?_) rfl (by kernel_rfl) (by kernel_rfl) (by kernel_rfl) (fun _ _ _ h => h) (Or.inl ⟨by rfl, ?_⟩) hS ?_
            rotate_left
            · (intro _ hW; obtain ⟨hW0, hW1⟩ := hW; go_simp; try (with_reducible rfl))
            try simp only [Act.put, List.setIfInBounds_toArray, List.set_cons_zero, List.set_cons_succ]
            refine wpAnyH_take (i := 8) (oi := ⟨some 45, _, _, _, _, _⟩) (v := ?_) rfl (by kernel_rfl) (by kernel_rfl) (by kernel_rfl) (fun _ _ _ h => h) (Or.inl ⟨by rfl, ?_⟩) hS ?_
            rotate_left
            · (intro _ hW; obtain ⟨hW0, hW1⟩ := hW; go_simp; try (with_reducible rfl))
            try simp only [Act.put, List.setIfInBounds_toArray, List.set_cons_zero, List.set_cons_succ]
            refine wpAnyH_take (i := 9) (oi := ⟨some 46, _, _, _, _, _⟩) (v := ?_) rfl (by kernel_rfl) (by kernel_rfl) (by kernel_rfl) (fun _ _ _ h => h) (Or.inl ⟨by rfl, ?_⟩) hS ?_
            rotate_left
            · (intro _ hW; obtain ⟨hW0, hW1⟩ := hW; go_simp; try (with_reducible rfl))
            try simp only [Act.put, List.setIfInBounds_toArray, List.set_cons_zero, List.set_cons_succ]
            obtain ⟨wX, hwX⟩ : ∃ wX, wX = w4 := ⟨_, rfl⟩
            rw [← hwX]
            obtain ⟨T, hT⟩ : ∃ T, T = w2.heap.size := ⟨_, rfl⟩
            rw [← hT]
            replace hTr : wX.heap[T]? = some (.cells #[.slice none 0 0, .int .i64 0] 27 (0, 0)) := by rw [hwX, hT]; exact hTr
            replace hTl : w1.heap.size ≤ T := by rw [hT]; exact hTl
            replace hoW : wX.ownsRow w1.heap.size 5 1 (.slice A4 (writeR ⟨d, p⟩ (a ++ b)).1.data.length c4) (writeR ⟨d, p⟩ (a ++ b)).1.data.length (bys (writeR ⟨d, p⟩ (a ++ b)).1.data) := by rw [hwX]; exact hoW
            replace hb : Below w1.heap.size w1 wX := by rw [hwX]; exact hb
            have t0 := cell_of_row _ _ 0 _ _ _ hTr
            have t1 := cell_of_row _ _ 1 _ _ _ hTr
            have tf0 := frozen_of_row _ _ 0 _ _ hTr
            have tf1 := frozen_of_row _ _ 1 _ _ hTr
            have tl := row_lt hTr
            have HTR := Lib.hid hTr
            have HOW := Lib.hid hoW
            have HBX := Lib.hid hb
            have hTl0 : w.heap.size < T := by omega
            clear hT hwX hTr hoW
            refine wpAnyH_ready (rs := [11]) (by kernel_rfl) (by simp) ?_
            refine AllReadyH.cons rfl (fun K hK => ?_) AllReadyH.nil
            go_simp
            refine hK.out _ _ (KEEP.out _ ((hb.setCell (by dsimp only; omega) _).setCell (by dsimp only; omega) _)) (fun hS => ?_)
            clear hK K
            try simp only [Act.put, List.setIfInBounds_toArray, List.set_cons_zero, List.set_cons_succ]
            refine wpAnyH_take (i := 12) (oi := ⟨some 8, _, _, _, _, _⟩) (v := ?_) rfl (by kernel_rfl) (by kernel_rfl) (by kernel_rfl) (fun _ _ _ h => h) (Or.inl ⟨by rfl, ?_⟩) hS ?_
            rotate_left
            · (intro _ hW; obtain ⟨hW0, hW1⟩ := hW; go_simp; try (with_reducible rfl))
            try simp only [Act.put, List.setIfInBounds_toArray, List.set_cons_zero, List.set_cons_succ]
            refine wpAnyH_done (by kernel_rfl) ?_ _
            clear hS t0 t1 tf0 tf1 tl
            go_wp2_with fail
            go_meet
            case rel =>
              refine ⟨T, A4, c4, rfl, rfl, hTl, set_row (set_row HTR.out _) _, (own_cap HOW.out).1, (own_cap HOW.out).2, Bys.of_own (own_set (own_set HOW.out ?_ _) ?_ _), (HBX.out.setCell (by dsimp only; omega) _).setCell (by dsimp only; omega) _⟩
              all_goals exact fun k hk e => row_ne HTR.out HOW.out (by decide) (hk.trans (congrArg some e))
        · go_simp
          have hTr := (heap_at (w := (w1.alloc (.cells #[] 5))) (o := .cells #[.slice none 0 0, .int .i64 0] 27) rfl)
          have hTl : w1.heap.size ≤ ((w1.alloc (.cells #[] 5))).heap.size := (by first | omega | (simp; done) | (simp; omega))
          try simp only [World.size_alloc] at hTr hTl
          replace hb := hb.alloc (by first | omega | (simp; done) | (simp; omega)) (.cells #[.slice none 0 0, .int .i64 0] 27)
          try replace ho := ho.alloc (.cells #[.slice none 0 0, .int .i64 0] 27)
          try replace hoW := hoW.alloc (.cells #[.slice none 0 0, .int .i64 0] 27)
          refine hK.out _ _ ?_ (fun hS => ?_)
          · exact KEEP.out _ hb
          clear hK K
          try simp only [Act.put, List.setIfInBounds_toArray, List.set_cons_zero, List.set_cons_succ, Nat.zero_add]
          refine wpAnyH_ready (rs := [3]) (by kernel_rfl) (by simp) ?_
          refine AllReadyH.cons rfl (fun K hK => ?_) AllReadyH.nil
          refine step_lift (by rfl) ?_
          refine elemByte.wp_append (.tmp 39) (.tmp 40) rfl rfl ho rfl ((HA.out.to hb).reads) (bys_one _) (by unfold maxLen; omega) (by omega) (by first | omega | (simp; done) | (simp; omega)) ?_
          intro v2 w2 hown2 hg2 hat2
          obtain ⟨A2, c2, hv2, _⟩ := own_shape hown2
          subst hv2
          try replace hTr := (hg2.block _ (row_lt hTr) (fun e => row_ne hTr ho (by decide) e.symm)).trans hTr
          replace hb := Below.grown hb hg2 (by first | omega | (simp; done) | (simp; omega)) (fun k hk => (ho.lt k hk).1)
          replace ho := hown2
          simp only [Nat.zero_add, List.nil_append] at ho
          have hs2 := hb.size
          clear hg2 hat2 hown2
          refine hK.out _ _ ?_ (fun hS => ?_)
          · exact KEEP.out _ hb
          clear hK K
          try simp only [Act.put, List.setIfInBounds_toArray, List.set_cons_zero, List.set_cons_succ, Nat.zero_add]
          refine wpAnyH_ready (rs := [5]) (by kernel_rfl) (by simp) ?_
          refine AllReadyH.cons rfl (fun K hK => ?_) AllReadyH.nil
          refine step_lift (by rfl) ?_
          refine elemByte.wp_append (.tmp 41) (.tmp 42) rfl rfl ho rfl ((HBB.out.to hb).reads) (bys_one _) (by unfold maxLen; omega) (by omega) (by first | omega | (simp; done) | (simp; omega)) ?_
          intro v3 w3 hown3 hg3 hat3
          obtain ⟨A3, c3, hv3, _⟩ := own_shape hown3
          subst hv3
          try replace hTr := (hg3.block _ (row_lt hTr) (fun e => row_ne hTr ho (by decide) e.symm)).trans hTr
          replace hb := Below.grown hb hg3 (by first | omega | (simp; done) | (simp; omega)) (fun k hk => (ho.lt k hk).1)
          replace ho := hown3
          have hs3 := hb.size
          clear hg3 hat3 hown3
          refine hK.out _ _ ?_ (fun hS => ?_)
          · exact KEEP.out _ hb
          clear hK K
          try simp only [Act.put, List.setIfInBounds_toArray, List.set_cons_zero, List.set_cons_succ, Nat.zero_add]
          refine wpAnyH_ready (rs := [6]) (by kernel_rfl) (by simp) ?_
          refine AllReadyH.cons rfl (fun K hK => ?_) AllReadyH.nil
          have hcp := own_cap ho
          rw [← bys_append] at ho
          have hby := Bys.of_own ho
          go_simp
          go_at_call 27
          (with_reducible refine (KW.out _ A3 _ c3 hb hby hcp.1 hcp.2 (by omega)).mono ?_)
          rintro e w4 ⟨A4, c4, rfl, hoW, hb4⟩
          try replace hTr := (hb4.block _ (row_lt hTr)).trans hTr
          replace hb := hb.trans (hb4.mono hb.size)
          have hs4 := hb.size
          replace hoW := own_more (base' := w1.heap.size) hoW (by first | omega | (simp; done) | (simp; omega))
          refine hK.out _ _ ?_ (fun hS => ?_)
          · exact KEEP.out _ hb
          clear hK K
          try simp only [Act.put, List.setIfInBounds_toArray, List.set_cons_zero, List.set_cons_succ, Nat.zero_add]
          refine wpAnyH_take (i := 7) (oi := ⟨some 37, _, _, _, _, _⟩) (v := ?_) rfl (by kernel_rfl) (by kernel_rfl) (by kernel_rfl) (fun _ _ _ h => h) (Or.inl ⟨by rfl, ?_⟩) hS ?_
          rotate_left
          · (intro _ hW; obtain ⟨hW0, hW1⟩ := hW; go_simp; try (with_reducible rfl))
          try simp only [Act.put, List.setIfInBounds_toArray, List.set_cons_zero, List.set_cons_succ]
          refine wpAnyH_take (i := 8) (oi := ⟨some 45, _, _, _, _, _⟩) (v := ?_) rfl (by kernel_rfl) (by kernel_rfl) (by kernel_rfl) (fun _ _ _ h => h) (Or.inl ⟨by rfl, ?_⟩) hS ?_
          rotate_left
          · (intro _ hW; obtain ⟨hW0, hW1⟩ := hW; go_simp; try (with_reducible rfl))
          try simp only [Act.put, List.setIfInBounds_toArray, List.set_cons_zero, List.set_cons_succ]
          refine wpAnyH_take (i := 9) (oi := ⟨some 46, _, _, _, _, _⟩) (v := ?_) rfl (by kernel_rfl) (by kernel_rfl) (by kernel_rfl) (fun _ _ _ h => h) (Or.inl ⟨by rfl, ?_⟩) hS ?_
          rotate_left
          · (intro _ hW; obtain ⟨hW0, hW1⟩ := hW; go_simp; try (with_reducible rfl))
          try simp only [Act.put, List.setIfInBounds_toArray, List.set_cons_zero, List.set_cons_succ]
          obtain ⟨wX, hwX⟩ : ∃ wX, wX = w4 := ⟨_, rfl⟩
          rw [← hwX]
          obtain ⟨T, hT⟩ : ∃ T, T = (w1.heap.size + 1) := ⟨_, rfl⟩
          rw [← hT]
          replace hTr : wX.heap[T]? = some (.cells #[.slice none 0 0, .int .i64 0] 27 (0, 0)) := by rw [hwX, hT]; exact hTr
          replace hTl : w1.heap.size ≤ T := by rw [hT]; exact hTl
          replace hoW : wX.ownsRow w1.heap.size 5 1 (.slice A4 (writeR ⟨d, p⟩ (a ++ b)).1.data.length c4) (writeR ⟨d, p⟩ (a ++ b)).1.data.length (bys (writeR ⟨d, p⟩ (a ++ b)).1.data) := by rw [hwX]; exact hoW
          replace hb : Below w1.heap.size w1 wX := by rw [hwX]; exact hb
          have t0 := cell_of_row _ _ 0 _ _ _ hTr
          have t1 := cell_of_row _ _ 1 _ _ _ hTr
          have tf0 := frozen_of_row _ _ 0 _ _ hTr
          have tf1 := frozen_of_row _ _ 1 _ _ hTr
          have tl := row_lt hTr
          have HTR := Lib.hid hTr
          have HOW := Lib.hid hoW
          have HBX := Lib.hid hb
          have hTl0 : w.heap.size < T := by omega
          clear hT hwX hTr hoW
          refine wpAnyH_ready (rs := [11]) (by kernel_rfl) (by simp) ?_
          refine AllReadyH.cons rfl (fun K hK => ?_) AllReadyH.nil
          go_simp
          refine hK.out _ _ (KEEP.out _ ((hb.setCell (by dsimp only; omega) _).setCell (by dsimp only; omega) _)) (fun hS => ?_)
          clear hK K
          try simp only [Act.put, List.setIfInBounds_toArray, List.set_cons_zero, List.set_cons_succ]
          refine wpAnyH_take (i := 12) (oi := ⟨some 8, _, _, _, _, _⟩) (v := ?_) rfl (by kernel_rfl) (by kernel_rfl) (by kernel_rfl) (fun _ _ _ h => h) (Or.inl ⟨by rfl, ?_⟩) hS ?_
          rotate_left
          · (intro _ hW; obtain ⟨hW0, hW1⟩ := hW; go_simp; try (with_reducible rfl))
          try simp only [Act.put, List.setIfInBounds_toArray, List.set_cons_zero, List.set_cons_succ]
          refine wpAnyH_done (by kernel_rfl) ?_ _
          clear hS t0 t1 tf0 tf1 tl
          go_wp2_with fail
          go_meet
          case rel =>
            refine ⟨T, A4, c4, rfl, rfl, hTl, set_row (set_row HTR.out _) _, (own_cap HOW.out).1, (own_cap HOW.out).2, Bys.of_own (own_set (own_set HOW.out ?_ _) ?_ _), (HBX.out.setCell (by dsimp only; omega) _).setCell (by dsimp only; omega) _⟩
            all_goals exact fun k hk e => row_ne HTR.out HOW.out (by decide) (hk.trans (congrArg some e))
      · go_simp
        have hTr := (heap_at (w := w1) (o := .cells #[.slice none 0 0, .int .i64 0] 27) rfl)
        have hTl : w1.heap.size ≤ (w1).heap.size := (by first | omega | (simp; done) | (simp; omega))
        try simp only [World.size_alloc] at hTr hTl
        replace hb := hb.alloc (by first | omega | (simp; done) | (simp; omega)) (.cells #[.slice none 0 0, .int .i64 0] 27)
        try replace ho := ho.alloc (.cells #[.slice none 0 0, .int .i64 0] 27)
        try replace hoW := hoW.alloc (.cells #[.slice none 0 0, .int .i64 0] 27)
        refine hK.out _ _ ?_ (fun hS => ?_)
        · exact KEEP.out _ hb
        clear hK K
        try simp only [Act.put, List.setIfInBounds_toArray, List.set_cons_zero, List.set_cons_succ, Nat.zero_add]
        refine wpAnyH_ready (rs := [1]) (by kernel_rfl) (by simp) ?_
        refine AllReadyH.cons rfl (fun K hK => ?_) AllReadyH.nil
        go_simp
        have ho := World.ownsRow_lit (base := w1.heap.size) (e := 5) (size := 1) ((w1.alloc (.cells #[.slice none 0 0, .int .i64 0] 27))) #[] 0 (by first | omega | (simp; done) | (simp; omega)) (by unfold maxLen; omega) rfl
        try simp only [World.size_alloc] at ho
        replace hb := hb.alloc (by first | omega | (simp; done) | (simp; omega)) (.cells #[] 5)
        try replace hTr := (Below.heap_alloc _ _ (.cells #[] 5) (row_lt hTr)).trans hTr
        refine hK.out _ _ ?_ (fun hS => ?_)
        · exact KEEP.out _ hb
        clear hK K
        try simp only [Act.put, List.setIfInBounds_toArray, List.set_cons_zero, List.set_cons_succ, Nat.zero_add]
        replace ho := ho.drew
        replace hTr : ((w1.alloc (.cells #[.slice none 0 0, .int .i64 0] 27)).alloc (.cells #[] 5)).drew.heap[w1.heap.size]? = some (.cells #[.slice none 0 0, .int .i64 0] 27 (0, 0)) := by rw [get_drew, get_alloc, if_neg (by simp), get_alloc, if_pos rfl]
        refine wpAnyH_ready (rs := [3]) (by kernel_rfl) (by simp) ?_
        refine AllReadyH.cons rfl (fun K hK => ?_) AllReadyH.nil
        refine step_lift (by rfl) ?_
        refine elemByte.wp_append (.tmp 39) (.tmp 40) rfl rfl ho rfl ((HA.out.to hb).reads) (bys_one _) (by unfold maxLen; omega) (by omega) (by first | omega | (simp; done) | (simp; omega)) ?_
        intro v2 w2 hown2 hg2 hat2
        obtain ⟨A2, c2, hv2, _⟩ := own_shape hown2
        subst hv2
        try replace hTr := (hg2.block _ (row_lt hTr) (fun e => row_ne hTr ho (by decide) e.symm)).trans hTr
        replace hb := Below.grown hb hg2 (by first | omega | (simp; done) | (simp; omega)) (fun k hk => (ho.lt k hk).1)
        replace ho := hown2
        simp only [Nat.zero_add, List.nil_append] at ho
        have hs2 := hb.size
        clear hg2 hat2 hown2
        refine hK.out _ _ ?_ (fun hS => ?_)
        · exact KEEP.out _ hb
        clear hK K
        try simp only [Act.put, List.setIfInBounds_toArray, List.set_cons_zero, List.set_cons_succ, Nat.zero_add]
        refine wpAnyH_ready (rs := [5]) (by kernel_rfl) (by simp) ?_
        refine AllReadyH.cons rfl (fun K hK => ?_) AllReadyH.nil
        refine step_lift (by rfl) ?_
        refine elemByte.wp_append (.tmp 41) (.tmp 42) rfl rfl ho rfl ((HBB.out.to hb).reads) (bys_one _) (by unfold maxLen; omega) (by omega) (by first | omega | (simp; done) | (simp; omega)) ?_
        intro v3 w3 hown3 hg3 hat3
        obtain ⟨A3, c3, hv3, _⟩ := own_shape hown3
        subst hv3
        try replace hTr := (hg3.block _ (row_lt hTr) (fun e => row_ne hTr ho (by decide) e.symm)).trans hTr
        replace hb := Below.grown hb hg3 (by first | omega | (simp; done) | (simp; omega)) (fun k hk => (ho.lt k hk).1)
        replace ho := hown3
        have hs3 := hb.size
        clear hg3 hat3 hown3
        refine hK.out _ _ ?_ (fun hS => ?_)
        · exact KEEP.out _ hb
        clear hK K
        try simp only [Act.put, List.setIfInBounds_toArray, List.set_cons_zero, List.set_cons_succ, Nat.zero_add]
        refine wpAnyH_ready (rs := [6]) (by kernel_rfl) (by simp) ?_
        refine AllReadyH.cons rfl (fun K hK => ?_) AllReadyH.nil
        have hcp := own_cap ho
        rw [← bys_append] at ho
        have hby := Bys.of_own ho
        go_simp
        go_at_call 27
        (with_reducible refine (KW.out _ A3 _ c3 hb hby hcp.1 hcp.2 (by omega)).mono ?_)
        rintro e w4 ⟨A4, c4, rfl, hoW, hb4⟩
        try replace hTr := (hb4.block _ (row_lt hTr)).trans hTr
        replace hb := hb.trans (hb4.mono hb.size)
        have hs4 := hb.size
        replace hoW := own_more (base' := w1.heap.size) hoW (by first | omega | (simp; done) | (simp; omega))
        refine hK.out _ _ ?_ (fun hS => ?_)
        · exact KEEP.out _ hb
        clear hK K
        try simp only [Act.put, List.setIfInBounds_toArray, List.set_cons_zero, List.set_cons_succ, Nat.zero_add]
        refine wpAnyH_take (i := 7) (oi := ⟨some 37, _, _, _, _, _⟩) (v := ?_) rfl (by kernel_rfl) (by kernel_rfl) (by kernel_rfl) (fun _ _ _ h => h) (Or.inl ⟨by rfl, ?_⟩) hS ?_
        rotate_left
        · (intro _ hW; obtain ⟨hW0, hW1⟩ := hW; go_simp; try (with_reducible rfl))
        try simp only [Act.put, List.setIfInBounds_toArray, List.set_cons_zero, List.set_cons_succ]
        refine wpAnyH_take (i := 8) (oi := ⟨some 45, _, _, _, _, _⟩) (v := ?_) rfl (by kernel_rfl) (by kernel_rfl) (by kernel_rfl) (fun _ _ _ h => h) (Or.inl ⟨by rfl, ?_⟩) hS ?_
        rotate_left
        · (intro _ hW; obtain ⟨hW0, hW1⟩ := hW; go_simp; try (with_reducible rfl))
        try simp only [Act.put, List.setIfInBounds_toArray, List.set_cons_zero, List.set_cons_succ]
        refine wpAnyH_take (i := 9) (oi := ⟨some 46, _, _, _, _, _⟩) (v := ?_) rfl (by kernel_rfl) (by kernel_rfl) (by kernel_rfl) (fun _ _ _ h => h) (Or.inl ⟨by rfl, ?_⟩) hS ?_
        rotate_left
        · (intro _ hW; obtain ⟨hW0, hW1⟩ := hW; go_simp; try (with_reducible rfl))
        try simp only [Act.put, List.setIfInBounds_toArray, List.set_cons_zero, List.set_cons_succ]
        obtain ⟨wX, hwX⟩ : ∃ wX, wX = w4 := ⟨_, rfl⟩
        rw [← hwX]
        obtain ⟨T, hT⟩ : ∃ T, T = w1.heap.size := ⟨_, rfl⟩
        rw [← hT]
        replace hTr : wX.heap[T]? = some (.cells #[.slice none 0 0, .int .i64 0] 27 (0, 0)) := by rw [hwX, hT]; exact hTr
        replace hTl : w1.heap.size ≤ T := by rw [hT]; exact hTl
        replace hoW : wX.ownsRow w1.heap.size 5 1 (.slice A4 (writeR ⟨d, p⟩ (a ++ b)).1.data.length c4) (writeR ⟨d, p⟩ (a ++ b)).1.data.length (bys (writeR ⟨d, p⟩ (a ++ b)).1.data) := by rw [hwX]; exact hoW
        replace hb : Below w1.heap.size w1 wX := by rw [hwX]; exact hb
        have t0 := cell_of_row _ _ 0 _ _ _ hTr
        have t1 := cell_of_row _ _ 1 _ _ _ hTr
        have tf0 := frozen_of_row _ _ 0 _ _ hTr
        have tf1 := frozen_of_row _ _ 1 _ _ hTr
        have tl := row_lt hTr
        have HTR := Lib.hid hTr
        have HOW := Lib.hid hoW
        have HBX := Lib.hid hb
        have hTl0 : w.heap.size < T := by omega
        clear hT hwX hTr hoW
        refine wpAnyH_ready (rs := [11]) (by kernel_rfl) (by simp) ?_
        refine AllReadyH.cons rfl (fun K hK => ?_) AllReadyH.nil
        go_simp
        refine hK.out _ _ (KEEP.out _ ((hb.setCell (by dsimp only; omega) _).setCell (by dsimp only; omega) _)) (fun hS => ?_)
        clear hK K
        try simp only [Act.put, List.setIfInBounds_toArray, List.set_cons_zero, List.set_cons_succ]
        refine wpAnyH_take (i := 12) (oi := ⟨some 8, _, _, _, _, _⟩) (v := ?_) rfl (by kernel_rfl) (by kernel_rfl) (by kernel_rfl) (fun _ _ _ h => h) (Or.inl ⟨by rfl, ?_⟩) hS ?_
        rotate_left
        · (intro _ hW; obtain ⟨hW0, hW1⟩ := hW; go_simp; try (with_reducible rfl))
        try simp only [Act.put, List.setIfInBounds_toArray, List.set_cons_zero, List.set_cons_succ]
        refine wpAnyH_done (by kernel_rfl) ?_ _
        clear hS t0 t1 tf0 tf1 tl
        go_wp2_with fail
        go_meet
        case rel =>
          refine ⟨T, A4, c4, rfl, rfl, hTl, set_row (set_row HTR.out _) _, (own_cap HOW.out).1, (own_cap HOW.out).2, Bys.of_own (own_set (own_set HOW.out ?_ _) ?_ _), (HBX.out.setCell (by dsimp only; omega) _).setCell (by dsimp only; omega) _⟩
          all_goals exact fun k hk e => row_ne HTR.out HOW.out (by decide) (hk.trans (congrArg some e))
    case rest =>
      obtain ⟨T, A4, c4, rfl, rfl, hT, hbox, hc4, hc4', hy4, hbw⟩ := hcut
      obtain ⟨D, P, E, D1, P1, E1, hR, hR1, hD1, hP1, hz1, hz2, hfin, htake, hPm, hPM⟩ := two_parts (a := a) (b := b) (by rw [HH.out.len]; exact g1) (by rw [HA0.out.len]; exact g2) (by rw [HB0.out.len]; exact g3) HOK.out hp.2
      rw [hR] at hbox hc4 hy4 ⊢
      dsimp only at hbox hc4 hy4 ⊢
      have KA : Hid (∀ W, Below wc.heap.size wc W → Calls Try.prog 27 #[.agg #[.slice A n c, .int .i64 p], .slice A' n' c'] W fun e w' => ∃ A5 c5, e = .returned (.tuple #[.agg #[.slice A5 D1.length c5, .int .i64 P1], .int .i64 E1]) ∧ w'.ownsRow W.heap.size 5 1 (.slice A5 D1.length c5) D1.length (bys D1) ∧ Below W.heap.size W w') :=
        Lib.hid fun W hW => by
          have hq := hbw.trans (hW.mono hbw.size)
          have := write_any A A' n c n' c' p d a W (HS.out.to hq) (HA.out.to hq) (by omega) (by omega) hnc' hc63' hp.2
          rw [hR1] at this
          exact this
      have KB : Hid (∀ W A5 c5, E1 = 0 → Below wc.heap.size wc W → Bys W W.heap.size A5 D1.length D1 → Calls Try.prog 27 #[.agg #[.slice A5 D1.length c5, .int .i64 P1], .slice A'' n'' c''] W fun e w' => ∃ A5 c5, e = .returned (.tuple #[.agg #[.slice A5 D.length c5, .int .i64 P], .int .i64 E]) ∧ w'.ownsRow W.heap.size 5 1 (.slice A5 D.length c5) D.length (bys D) ∧ Below W.heap.size W w') :=
        Lib.hid fun W A5 c5 hE hW hy => by
          have hq := hbw.trans (hW.mono hbw.size)
          have := write_any A5 A'' D1.length c5 n'' c'' P1 D1 b W hy (HBB.out.to hq) (by omega) (by omega) hnc'' hc63'' hP1
          rw [hz1 hE] at this
          exact this
      have HBW := Lib.hid hbw
      have HBOX := Lib.hid hbox
      have HY4 := Lib.hid hy4
      have HFIN := Lib.hid hfin
      have HTK := Lib.hid htake
      have HZ2 := Lib.hid hz2
      have hs1 := (hbw.block w.heap.size l0).trans R1.out
      have RS := Lib.hid hs1
      have e0 : wc.cell? ⟨w.heap.size, 0, none⟩ = some (.slice A n c) := cell_of_row _ _ 0 _ _ _ hs1
      have e1 : wc.cell? ⟨w.heap.size, 1, none⟩ = some (.int .i64 p) := cell_of_row _ _ 1 _ _ _ hs1
      clear hbox hy4 hfin htake hz1 hz2 hbw hs1 hR hR1 KW KEEP
      go_wp2_with fail
      refine (KA.out wc (Below.refl _ _)).mono ?_
      rintro e w4 ⟨A5, c5, rfl, ho5, hb5⟩
      have HO5 := Lib.hid ho5
      have HB5 := Lib.hid hb5
      clear ho5 hb5 KA
      go_upto_if 56 with (fail)
      generalize hwY : World.alloc (World.alloc w4 _) _ = wY
      have y9 : wY.heap[w4.heap.size]? = some (.cells #[.slice A5 D1.length c5, .int .i64 P1] 27 (0, 0)) := by rw [← hwY]; (try rw [get_drew]); simp only [get_alloc, get_set, World.size_alloc, World.size_setCell]; simp [Nat.add_assoc]
      have y11 : wY.heap[w4.heap.size + 1]? = some (.cells #[.slice A5 D1.length c5, .int .i64 P1] 27 (0, 0)) := by rw [← hwY]; (try rw [get_drew]); simp only [get_alloc, get_set, World.size_alloc, World.size_setCell]; simp [Nat.add_assoc]
      have hb4Y : Below w4.heap.size w4 wY := by rw [← hwY]; go_grown
      have HBY := Lib.hid (HB5.out.trans (hb4Y.mono HB5.out.size) : Below wc.heap.size wc wY)
      have hY5 := (Bys.of_own HO5.out).to hb4Y
      have HY5 := Lib.hid hY5
      have Y9 := Lib.hid y9
      have Y11 := Lib.hid y11
      have hcp5 := own_cap HO5.out
      have hsw : wc.heap.size ≤ w4.heap.size := HB5.out.size
      clear hwY hb4Y hY5 y9 y11 e0 e1
      go_cut [11, 12] from 14 (fun s11 s12 wd => Below wc.heap.size wc wd ∧ Lies wc ((⟨D, P⟩ : Sto), E) s11 s12 wd)
      case first =>
        by_cases hE : E1 = 0
        · have j1 : (E1 == 0) = true := by simpa using hE
          have e90 : wY.cell? ⟨w4.heap.size, 0, none⟩ = some (.slice A5 D1.length c5) := cell_of_row _ _ 0 _ _ _ Y9.out
          have e91 : wY.cell? ⟨w4.heap.size, 1, none⟩ = some (.int .i64 P1) := cell_of_row _ _ 1 _ _ _ Y9.out
          have KB1 := Lib.hid (KB.out wY A5 c5 hE HBY.out HY5.out)
          clear hE
          go_wp2_with fail
          refine KB1.out.mono ?_
          rintro e w5 ⟨A6, c6, rfl, ho6, hb6⟩
          have r11 := (hb6.block _ (row_lt Y11.out)).trans Y11.out
          have R11 := Lib.hid r11
          have HO6 := Lib.hid ho6
          have HB6 := Lib.hid (after HBY.out hb6)
          have hlY := row_lt Y11.out
          have t0 := cell_of_row _ _ 0 _ _ _ r11
          have t1 := cell_of_row _ _ 1 _ _ _ r11
          have tf0 := frozen_of_row _ _ 0 _ _ r11
          have tf1 := frozen_of_row _ _ 1 _ _ r11
          have tl := row_lt r11
          clear r11 ho6 hb6 e90 e91
          go_wp2_with fail
          go_meet
          case rel =>
            have hbf := ((HB6.out.setCell (p := ⟨w4.heap.size + 1, 0, none⟩) (by dsimp only; omega) (.slice A6 D.length c6)).setCell (p := ⟨w4.heap.size + 1, 1, none⟩) (by dsimp only; omega) (.int .i64 P))
            refine ⟨hbf, w4.heap.size + 1, A6, c6, rfl, rfl, by omega, set_row (set_row R11.out _) _, (own_cap HO6.out).1, (own_cap HO6.out).2, Bys.of_own (own_set (own_set HO6.out ?_ _) ?_ _), hbf⟩
            all_goals exact fun k hk e => row_ne R11.out HO6.out (by decide) (hk.trans (congrArg some e))
        · have j1 : (E1 == 0) = false := by simpa using hE
          have HE := Lib.hid hE
          clear hE
          go_wp2_with fail
          go_meet
          case rel =>
            obtain ⟨q1, q2, q3⟩ := HZ2.out HE.out
            subst q1 q2 q3
            exact ⟨HBY.out, w4.heap.size + 1, A5, c5, rfl, rfl, by omega, Y11.out, hcp5.1, hcp5.2, HY5.out, HBY.out⟩
      case rest =>
        obtain ⟨hbd, T2, A7, c7, rfl, rfl, hT2, hbox2, hc7, hc7', hy7, _⟩ := hcut
        rename World => wd
        dsimp only at hbox2 hc7 hy7 ⊢
        have hnD : n ≤ D.length := by
          have h1 := congrArg List.length HTK.out
          rw [List.length_take, HH.out.len] at h1
          omega
        have hDL : D.length ≤ 20000 := by
          have := HH.out.len
          have h2 := HA0.out.len
          have h3 := HB0.out.len
          have := HFIN.out
          omega
        have hlT : T < wc.heap.size := row_lt HBOX.out
        have rT := (hbd.block T hlT).trans HBOX.out
        have rS := (hbd.block w.heap.size (row_lt RS.out)).trans RS.out
        have RT := Lib.hid rT
        have RSd := Lib.hid rS
        have lS := row_lt rS
        have lT := row_lt rT
        have hY4 := Lib.hid (HY4.out.to hbd)
        have HBD := Lib.hid (HBW.out.trans (hbd.mono HBW.out.size) : Below w1.heap.size w1 wd)
        have F0 : ∀ q : Later wd, q.val.cell? ⟨T, 0, none⟩ = some (.slice A4 D.length c4) := fun q => q.cell (a := ⟨T, 0, none⟩) lT (cell_of_row _ _ 0 _ _ _ rT)
        have F1 : ∀ q : Later wd, q.val.cell? ⟨T, 1, none⟩ = some (.int .i64 P) := fun q => q.cell (a := ⟨T, 1, none⟩) lT (cell_of_row _ _ 1 _ _ _ rT)
        have G0 : ∀ q : Later wd, q.val.cell? ⟨T2, 0, none⟩ = some (.slice A7 D.length c7) := fun q => q.cell (a := ⟨T2, 0, none⟩) (row_lt hbox2) (cell_of_row _ _ 0 _ _ _ hbox2)
        have G1 : ∀ q : Later wd, q.val.cell? ⟨T2, 1, none⟩ = some (.int .i64 P) := fun q => q.cell (a := ⟨T2, 1, none⟩) (row_lt hbox2) (cell_of_row _ _ 1 _ _ _ hbox2)
        have KSS := fun q : Later wd => Lib.hid (show Calls Try.prog 12 #[.agg #[.slice A4 D.length c4, .int .i64 P], .agg #[.slice A7 D.length c7, .int .i64 P]] q.val fun e w' => e = .returned (.bool true) ∧ Below q.val.heap.size q.val w' by
          have := sameStore_any A4 A7 D.length c4 D.length c7 P P D D q.val (hY4.out.to q.ok) (hy7.to q.ok)
          simpa using this)
        have KST := fun (q : Later wd) A c => Lib.hid (store_any A D.length c P q.val)
        have KCUT := Lib.hid (fun W hW => cut_any A4 D.length c4 P (n : Int) D W (hY4.out.to hW) (by omega) hc4 hc4' hPM)
        have hcutv : (n < D.length ∧ P = 0 ∧ cutR ⟨D, P⟩ (n : Int) = (Sto.zero, 370)) ∨ (¬ (n < D.length ∧ P = 0) ∧ ∃ P', cutR ⟨D, P⟩ (n : Int) = (⟨d, P'⟩, 0)) := by
          have hok : stoOk ⟨D, P⟩ = true := by unfold stoOk; rw [decide_eq_true_iff]; exact ⟨by dsimp only; omega, hPm⟩
          have hnot : ¬ (stoOk ⟨D, P⟩ = false ∨ (n : Int) < 0 ∨ ((⟨D, P⟩ : Sto).data.length : Int) < n) := by
            rintro (h | h | h)
            · rw [hok] at h; cases h
            · omega
            · dsimp only at h; omega
          by_cases h0 : n < D.length ∧ P = 0
          · left
            refine ⟨h0.1, h0.2, ?_⟩
            unfold cutR
            rw [if_neg hnot, if_pos ⟨by dsimp only; omega, h0.2⟩]
          · right
            refine ⟨h0, (if (n : Int) < D.length ∧ 0 < P then P - 1 else P), ?_⟩
            unfold cutR
            rw [if_neg hnot, if_neg (fun h => h0 ⟨by have := h.1; dsimp only at this; omega, h.2⟩)]
            dsimp only
            rw [Int.toNat_natCast, ← HH.out.len, HTK.out]
        have HCV := Lib.hid hcutv
        have hHL := HH.out.len
        have hAL := HA0.out.len
        have hBL := HB0.out.len
        have hfin := HFIN.out
        rw [hHL, hAL, hBL] at hfin
        clear rT rS hbox2 hy7 hcutv hHL hAL hBL hbd
        rcases hfin with ⟨hE, hpp, hD0⟩ | ⟨hE, hpp, hpp2, hD0, hP0⟩
        · have j1 : (E == 0) = true := by simpa using hE
          have j2 : (E != 0) = false := by simpa using hE
          have j3 : ((D.length : Int) == (n : Int) + (n' : Int) + (n'' : Int)) = true := by rw [beq_iff_eq]; omega
          have j4 : ((D.length : Int) != (n : Int) + (n' : Int) + (n'' : Int)) = false := by simp [bne, j3]
          have HE := Lib.hid hE
          clear hE hD0
          by_cases hpm : p = -1
          · have j5 : (p == -1) = true := by simpa using hpm
            have HPP := Lib.hid hpm
            clear hpp hpm
            go_wp2_with fail
            (refine wp_region_later (by kernel_rfl) (by kernel_rfl) ?_; (repeat (first | go_big_quiet_step ((first | (go_at_call 13; exact Calls.later _ (KST _ _ _).out) | (go_at_call 12; exact Calls.later _ (KSS _).out))) | quiet_step ((first | (go_at_call 13; exact Calls.later _ (KST _ _ _).out) | (go_at_call 12; exact Calls.later _ (KSS _).out))))); refine wpQuiet_nil ?_; intro _ hw1; obtain ⟨pq, hw2⟩ := hw1; subst hw2)
            have hbe := pq.ok
            have HBE := Lib.hid (HBD.out.trans (hbe.mono HBD.out.size) : Below w1.heap.size w1 pq.val)
            have rT := (hbe.block T lT).trans RT.out
            have rS := (hbe.block w.heap.size lS).trans RSd.out
            have hY5' := Lib.hid (hY4.out.to hbe)
            have KC2 := Lib.hid (fun W (hW : Below pq.val.heap.size pq.val W) => KCUT.out W (hbe.trans (hW.mono hbe.size)))
            generalize pq.val = we at *
            clear F0 F1 G0 G1 KSS KST hbe
            have e0 : we.cell? ⟨w.heap.size, 0, none⟩ = some (.slice A n c) := cell_of_row _ _ 0 _ _ _ rS
            have e1 : we.cell? ⟨w.heap.size, 1, none⟩ = some (.int .i64 p) := cell_of_row _ _ 1 _ _ _ rS
            have f0 : we.cell? ⟨T, 0, none⟩ = some (.slice A4 D.length c4) := cell_of_row _ _ 0 _ _ _ rT
            have f1 : we.cell? ⟨T, 1, none⟩ = some (.int .i64 P) := cell_of_row _ _ 1 _ _ _ rT
            have RTe := Lib.hid rT
            have RSe := Lib.hid rS
            clear rT rS
            go_wp2_with fail
            have F0 : ∀ q : Later we, q.val.cell? ⟨T, 0, none⟩ = some (.slice A4 D.length c4) := fun q => q.cell (a := ⟨T, 0, none⟩) (row_lt RTe.out) f0
            have S0 : ∀ q : Later we, q.val.cell? ⟨w.heap.size, 0, none⟩ = some (.slice A n c) := fun q => q.cell (a := ⟨w.heap.size, 0, none⟩) (row_lt RSe.out) e0
            have V1 : ∀ q : Later we, (convert 25 9 (.slice A4 n c4)).run Try.prog q.val = .ok (.string ⟨d.toArray⟩) q.val := fun q => by
              have := ((hY5'.out.to q.ok).cutTo hnD).conv (P := Try.prog) 25 5 9 c4 Try.underlying25 Try.underlying5 Try.underlying9
              rw [← HH.out.len, HTK.out] at this
              rw [← HH.out.len]
              exact this
            have V2 : ∀ q : Later we, (convert 25 9 (.slice A n c)).run Try.prog q.val = .ok (.string ⟨d.toArray⟩) q.val := fun q => (HS.out.to (HBE.out.trans (q.ok.mono HBE.out.size))).conv _ 5 _ _ Try.underlying25 Try.underlying5 Try.underlying9
            have k1 : (n : Int) ≤ (c4 : Int) := by omega
            have k2 : (0 : Int) ≤ (n : Int) := by omega
            clear e0 e1 f0 f1
            (refine wp_region_later (by kernel_rfl) (by kernel_rfl) ?_; (repeat (first | go_big_quiet_step ((fail)) | quiet_step ((fail)))); refine wpQuiet_nil ?_; intro _ hw1; obtain ⟨pr, hw2⟩ := hw1; subst hw2)
            have hbf := pr.ok
            have HBF := Lib.hid (HBE.out.trans (hbf.mono HBE.out.size) : Below w1.heap.size w1 pr.val)
            have rT := (hbf.block T (row_lt RTe.out)).trans RTe.out
            have rS := (hbf.block w.heap.size (row_lt RSe.out)).trans RSe.out
            have KC3 := Lib.hid (fun W (hW : Below pr.val.heap.size pr.val W) => KC2.out W (hbf.trans (hW.mono hbf.size)))
            generalize pr.val = wf at *
            clear F0 S0 V1 V2 hbf
            have RTf := Lib.hid rT
            have RSf := Lib.hid rS
            have e0 : wf.cell? ⟨w.heap.size, 0, none⟩ = some (.slice A n c) := cell_of_row _ _ 0 _ _ _ rS
            have f0 : wf.cell? ⟨T, 0, none⟩ = some (.slice A4 D.length c4) := cell_of_row _ _ 0 _ _ _ rT
            have f1 : wf.cell? ⟨T, 1, none⟩ = some (.int .i64 P) := cell_of_row _ _ 1 _ _ _ rT
            clear rT rS
            have KC4 := Lib.hid (KC3.out wf (Below.refl _ _))
            go_wp2_with fail
            rcases HCV.out with ⟨hc1, hc2, hc3⟩ | ⟨hc1, P', hc3⟩
            · rw [hc3] at KC4
              refine KC4.out.mono ?_
              rintro e w6 ⟨A6, c6, rfl, ho6, hb6⟩
              dsimp only [Sto.zero, List.length_nil] at ho6 ⊢
              have rT := (hb6.block T (row_lt RTf.out)).trans RTf.out
              have rS := (hb6.block w.heap.size (row_lt RSf.out)).trans RSf.out
              have HB6 := Lib.hid (HBF.out.trans (hb6.mono HBF.out.size))
              have e0 : w6.cell? ⟨w.heap.size, 0, none⟩ = some (.slice A n c) := cell_of_row _ _ 0 _ _ _ rS
              have f0 : w6.cell? ⟨T, 0, none⟩ = some (.slice A4 D.length c4) := cell_of_row _ _ 0 _ _ _ rT
              have f1 : w6.cell? ⟨T, 1, none⟩ = some (.int .i64 P) := cell_of_row _ _ 1 _ _ _ rT
              have l1 := row_lt rT
              have l2 := row_lt rS
              have k3 : (n : Int) < (D.length : Int) := by omega
              have k4 : (P == 0) = true := by simpa using hc2
              clear hc1 hc2 hc3 rT rS hb6 ho6 KC4
              go_wp2_with fail
              go_ret
              refine ⟨rfl, ?_⟩
              have := HB1.out.trans (HB6.out.mono HB1.out.size)
              go_grown
            · rw [hc3] at KC4
              refine KC4.out.mono ?_
              rintro e w6 ⟨A6, c6, rfl, ho6, hb6⟩
              dsimp only at ho6 ⊢
              have HO6 := Lib.hid ho6
              have rT := (hb6.block T (row_lt RTf.out)).trans RTf.out
              have rS := (hb6.block w.heap.size (row_lt RSf.out)).trans RSf.out
              have HB6 := Lib.hid (HBF.out.trans (hb6.mono HBF.out.size))
              have e0 : w6.cell? ⟨w.heap.size, 0, none⟩ = some (.slice A n c) := cell_of_row _ _ 0 _ _ _ rS
              have f0 : w6.cell? ⟨T, 0, none⟩ = some (.slice A4 D.length c4) := cell_of_row _ _ 0 _ _ _ rT
              have f1 : w6.cell? ⟨T, 1, none⟩ = some (.int .i64 P) := cell_of_row _ _ 1 _ _ _ rT
              have l1 := row_lt rT
              have l2 := row_lt rS
              have V3 := fun W (hW : Below w6.heap.size w6 W) => Lib.hid (((Bys.of_own HO6.out).to hW).conv (P := Try.prog) 25 5 9 c6 Try.underlying25 Try.underlying5 Try.underlying9)
              have V4 := fun W (hW : Below w6.heap.size w6 W) => Lib.hid ((HS.out.to (HB6.out.trans (hW.mono HB6.out.size))).conv (P := Try.prog) 25 5 9 c Try.underlying25 Try.underlying5 Try.underlying9)
              have v3 := (V3 (w6.alloc (.cells #[.slice A6 d.length c6, .int .i64 P'] 27)) (by go_grown)).out
              have v4 := (V4 (w6.alloc (.cells #[.slice A6 d.length c6, .int .i64 P'] 27)) (by go_grown)).out
              clear rT rS hb6 ho6 KC4 V3 V4 hc3
              by_cases hnd : n < D.length
              · have k3 : (n : Int) < (D.length : Int) := by omega
                have k4 : (P == 0) = false := by rw [beq_eq_false_iff_ne]; exact fun e => hc1 ⟨hnd, e⟩
                first
                  | (exfalso; rw [k4] at j9; cases j9; done)
                  | (clear hc1 hnd
                     go_wp2_with fail
                     go_ret
                     refine ⟨rfl, ?_⟩
                     have := HB1.out.trans (HB6.out.mono HB1.out.size)
                     go_grown)
              · have k3 : (D.length : Int) ≤ (n : Int) := by omega
                clear hc1 hnd
                go_wp2_with fail
                go_ret
                refine ⟨rfl, ?_⟩
                have := HB1.out.trans (HB6.out.mono HB1.out.size)
                go_grown
          · have j5 : (p == -1) = false := by simpa using hpm
            have j6 : (n' : Int) + (n'' : Int) ≤ p := by omega
            clear hpp hpm
            go_wp2_with fail
            (refine wp_region_later (by kernel_rfl) (by kernel_rfl) ?_; (repeat (first | go_big_quiet_step ((first | (go_at_call 13; exact Calls.later _ (KST _ _ _).out) | (go_at_call 12; exact Calls.later _ (KSS _).out))) | quiet_step ((first | (go_at_call 13; exact Calls.later _ (KST _ _ _).out) | (go_at_call 12; exact Calls.later _ (KSS _).out))))); refine wpQuiet_nil ?_; intro _ hw1; obtain ⟨pq, hw2⟩ := hw1; subst hw2)
            have hbe := pq.ok
            have HBE := Lib.hid (HBD.out.trans (hbe.mono HBD.out.size) : Below w1.heap.size w1 pq.val)
            have rT := (hbe.block T lT).trans RT.out
            have rS := (hbe.block w.heap.size lS).trans RSd.out
            have hY5' := Lib.hid (hY4.out.to hbe)
            have KC2 := Lib.hid (fun W (hW : Below pq.val.heap.size pq.val W) => KCUT.out W (hbe.trans (hW.mono hbe.size)))
            generalize pq.val = we at *
            clear F0 F1 G0 G1 KSS KST hbe
            have e0 : we.cell? ⟨w.heap.size, 0, none⟩ = some (.slice A n c) := cell_of_row _ _ 0 _ _ _ rS
            have e1 : we.cell? ⟨w.heap.size, 1, none⟩ = some (.int .i64 p) := cell_of_row _ _ 1 _ _ _ rS
            have f0 : we.cell? ⟨T, 0, none⟩ = some (.slice A4 D.length c4) := cell_of_row _ _ 0 _ _ _ rT
            have f1 : we.cell? ⟨T, 1, none⟩ = some (.int .i64 P) := cell_of_row _ _ 1 _ _ _ rT
            have RTe := Lib.hid rT
            have RSe := Lib.hid rS
            clear rT rS
            go_wp2_with fail
            have F0 : ∀ q : Later we, q.val.cell? ⟨T, 0, none⟩ = some (.slice A4 D.length c4) := fun q => q.cell (a := ⟨T, 0, none⟩) (row_lt RTe.out) f0
            have S0 : ∀ q : Later we, q.val.cell? ⟨w.heap.size, 0, none⟩ = some (.slice A n c) := fun q => q.cell (a := ⟨w.heap.size, 0, none⟩) (row_lt RSe.out) e0
            have V1 : ∀ q : Later we, (convert 25 9 (.slice A4 n c4)).run Try.prog q.val = .ok (.string ⟨d.toArray⟩) q.val := fun q => by
              have := ((hY5'.out.to q.ok).cutTo hnD).conv (P := Try.prog) 25 5 9 c4 Try.underlying25 Try.underlying5 Try.underlying9
              rw [← HH.out.len, HTK.out] at this
              rw [← HH.out.len]
              exact this
            have V2 : ∀ q : Later we, (convert 25 9 (.slice A n c)).run Try.prog q.val = .ok (.string ⟨d.toArray⟩) q.val := fun q => (HS.out.to (HBE.out.trans (q.ok.mono HBE.out.size))).conv _ 5 _ _ Try.underlying25 Try.underlying5 Try.underlying9
            have k1 : (n : Int) ≤ (c4 : Int) := by omega
            have k2 : (0 : Int) ≤ (n : Int) := by omega
            clear e0 e1 f0 f1
            (refine wp_region_later (by kernel_rfl) (by kernel_rfl) ?_; (repeat (first | go_big_quiet_step ((fail)) | quiet_step ((fail)))); refine wpQuiet_nil ?_; intro _ hw1; obtain ⟨pr, hw2⟩ := hw1; subst hw2)
            have hbf := pr.ok
            have HBF := Lib.hid (HBE.out.trans (hbf.mono HBE.out.size) : Below w1.heap.size w1 pr.val)
            have rT := (hbf.block T (row_lt RTe.out)).trans RTe.out
            have rS := (hbf.block w.heap.size (row_lt RSe.out)).trans RSe.out
            have KC3 := Lib.hid (fun W (hW : Below pr.val.heap.size pr.val W) => KC2.out W (hbf.trans (hW.mono hbf.size)))
            generalize pr.val = wf at *
            clear F0 S0 V1 V2 hbf
            have RTf := Lib.hid rT
            have RSf := Lib.hid rS
            have e0 : wf.cell? ⟨w.heap.size, 0, none⟩ = some (.slice A n c) := cell_of_row _ _ 0 _ _ _ rS
            have f0 : wf.cell? ⟨T, 0, none⟩ = some (.slice A4 D.length c4) := cell_of_row _ _ 0 _ _ _ rT
            have f1 : wf.cell? ⟨T, 1, none⟩ = some (.int .i64 P) := cell_of_row _ _ 1 _ _ _ rT
            clear rT rS
            have KC4 := Lib.hid (KC3.out wf (Below.refl _ _))
            go_wp2_with fail
            rcases HCV.out with ⟨hc1, hc2, hc3⟩ | ⟨hc1, P', hc3⟩
            · rw [hc3] at KC4
              refine KC4.out.mono ?_
              rintro e w6 ⟨A6, c6, rfl, ho6, hb6⟩
              dsimp only [Sto.zero, List.length_nil] at ho6 ⊢
              have rT := (hb6.block T (row_lt RTf.out)).trans RTf.out
              have rS := (hb6.block w.heap.size (row_lt RSf.out)).trans RSf.out
              have HB6 := Lib.hid (HBF.out.trans (hb6.mono HBF.out.size))
              have e0 : w6.cell? ⟨w.heap.size, 0, none⟩ = some (.slice A n c) := cell_of_row _ _ 0 _ _ _ rS
              have f0 : w6.cell? ⟨T, 0, none⟩ = some (.slice A4 D.length c4) := cell_of_row _ _ 0 _ _ _ rT
              have f1 : w6.cell? ⟨T, 1, none⟩ = some (.int .i64 P) := cell_of_row _ _ 1 _ _ _ rT
              have l1 := row_lt rT
              have l2 := row_lt rS
              have k3 : (n : Int) < (D.length : Int) := by omega
              have k4 : (P == 0) = true := by simpa using hc2
              clear hc1 hc2 hc3 rT rS hb6 ho6 KC4
              go_wp2_with fail
              go_ret
              refine ⟨rfl, ?_⟩
              have := HB1.out.trans (HB6.out.mono HB1.out.size)
              go_grown
            · rw [hc3] at KC4
              refine KC4.out.mono ?_
              rintro e w6 ⟨A6, c6, rfl, ho6, hb6⟩
              dsimp only at ho6 ⊢
              have HO6 := Lib.hid ho6
              have rT := (hb6.block T (row_lt RTf.out)).trans RTf.out
              have rS := (hb6.block w.heap.size (row_lt RSf.out)).trans RSf.out
              have HB6 := Lib.hid (HBF.out.trans (hb6.mono HBF.out.size))
              have e0 : w6.cell? ⟨w.heap.size, 0, none⟩ = some (.slice A n c) := cell_of_row _ _ 0 _ _ _ rS
              have f0 : w6.cell? ⟨T, 0, none⟩ = some (.slice A4 D.length c4) := cell_of_row _ _ 0 _ _ _ rT
              have f1 : w6.cell? ⟨T, 1, none⟩ = some (.int .i64 P) := cell_of_row _ _ 1 _ _ _ rT
              have l1 := row_lt rT
              have l2 := row_lt rS
              have V3 := fun W (hW : Below w6.heap.size w6 W) => Lib.hid (((Bys.of_own HO6.out).to hW).conv (P := Try.prog) 25 5 9 c6 Try.underlying25 Try.underlying5 Try.underlying9)
              have V4 := fun W (hW : Below w6.heap.size w6 W) => Lib.hid ((HS.out.to (HB6.out.trans (hW.mono HB6.out.size))).conv (P := Try.prog) 25 5 9 c Try.underlying25 Try.underlying5 Try.underlying9)
              have v3 := (V3 (w6.alloc (.cells #[.slice A6 d.length c6, .int .i64 P'] 27)) (by go_grown)).out
              have v4 := (V4 (w6.alloc (.cells #[.slice A6 d.length c6, .int .i64 P'] 27)) (by go_grown)).out
              clear rT rS hb6 ho6 KC4 V3 V4 hc3
              by_cases hnd : n < D.length
              · have k3 : (n : Int) < (D.length : Int) := by omega
                have k4 : (P == 0) = false := by rw [beq_eq_false_iff_ne]; exact fun e => hc1 ⟨hnd, e⟩
                first
                  | (exfalso; rw [k4] at j9; cases j9; done)
                  | (clear hc1 hnd
                     go_wp2_with fail
                     go_ret
                     refine ⟨rfl, ?_⟩
                     have := HB1.out.trans (HB6.out.mono HB1.out.size)
                     go_grown)
              · have k3 : (D.length : Int) ≤ (n : Int) := by omega
                clear hc1 hnd
                go_wp2_with fail
                go_ret
                refine ⟨rfl, ?_⟩
                have := HB1.out.trans (HB6.out.mono HB1.out.size)
                go_grown
        · have j1 : (E == 0) = false := by rw [hE]; rfl
          have j2 : (E != 0) = true := by rw [hE]; rfl
          have j7 : (E == 370) = true := by rw [hE]; rfl
          have j8 : (E != 370) = false := by rw [hE]; rfl
          have j3 : ((D.length : Int) == (n : Int) + p) = true := by rw [beq_iff_eq]; omega
          have j4 : ((D.length : Int) != (n : Int) + p) = false := by simp [bne, j3]
          have j9 : (P == 0) = true := by simpa using hP0
          have j10 : (P != 0) = false := by simpa using hP0
          have j5 : (p == -1) = false := by rw [beq_eq_false_iff_ne]; omega
          have j6 : ¬ ((n' : Int) + (n'' : Int) ≤ p) := by omega
          have HE := Lib.hid hE
          clear hE hD0 hpp hpp2 hP0
          go_wp2_with fail
          (refine wp_region_later (by kernel_rfl) (by kernel_rfl) ?_; (repeat (first | go_big_quiet_step ((first | (go_at_call 13; exact Calls.later _ (KST _ _ _).out) | (go_at_call 12; exact Calls.later _ (KSS _).out))) | quiet_step ((first | (go_at_call 13; exact Calls.later _ (KST _ _ _).out) | (go_at_call 12; exact Calls.later _ (KSS _).out))))); refine wpQuiet_nil ?_; intro _ hw1; obtain ⟨pq, hw2⟩ := hw1; subst hw2)
          have hbe := pq.ok
          have HBE := Lib.hid (HBD.out.trans (hbe.mono HBD.out.size) : Below w1.heap.size w1 pq.val)
          have rT := (hbe.block T lT).trans RT.out
          have rS := (hbe.block w.heap.size lS).trans RSd.out
          have hY5' := Lib.hid (hY4.out.to hbe)
          have KC2 := Lib.hid (fun W (hW : Below pq.val.heap.size pq.val W) => KCUT.out W (hbe.trans (hW.mono hbe.size)))
          generalize pq.val = we at *
          clear F0 F1 G0 G1 KSS KST hbe
          have e0 : we.cell? ⟨w.heap.size, 0, none⟩ = some (.slice A n c) := cell_of_row _ _ 0 _ _ _ rS
          have e1 : we.cell? ⟨w.heap.size, 1, none⟩ = some (.int .i64 p) := cell_of_row _ _ 1 _ _ _ rS
          have f0 : we.cell? ⟨T, 0, none⟩ = some (.slice A4 D.length c4) := cell_of_row _ _ 0 _ _ _ rT
          have f1 : we.cell? ⟨T, 1, none⟩ = some (.int .i64 P) := cell_of_row _ _ 1 _ _ _ rT
          have RTe := Lib.hid rT
          have RSe := Lib.hid rS
          clear rT rS
          go_wp2_with fail
          have F0 : ∀ q : Later we, q.val.cell? ⟨T, 0, none⟩ = some (.slice A4 D.length c4) := fun q => q.cell (a := ⟨T, 0, none⟩) (row_lt RTe.out) f0
          have S0 : ∀ q : Later we, q.val.cell? ⟨w.heap.size, 0, none⟩ = some (.slice A n c) := fun q => q.cell (a := ⟨w.heap.size, 0, none⟩) (row_lt RSe.out) e0
          have V1 : ∀ q : Later we, (convert 25 9 (.slice A4 n c4)).run Try.prog q.val = .ok (.string ⟨d.toArray⟩) q.val := fun q => by
            have := ((hY5'.out.to q.ok).cutTo hnD).conv (P := Try.prog) 25 5 9 c4 Try.underlying25 Try.underlying5 Try.underlying9
            rw [← HH.out.len, HTK.out] at this
            rw [← HH.out.len]
            exact this
          have V2 : ∀ q : Later we, (convert 25 9 (.slice A n c)).run Try.prog q.val = .ok (.string ⟨d.toArray⟩) q.val := fun q => (HS.out.to (HBE.out.trans (q.ok.mono HBE.out.size))).conv _ 5 _ _ Try.underlying25 Try.underlying5 Try.underlying9
          have k1 : (n : Int) ≤ (c4 : Int) := by omega
          have k2 : (0 : Int) ≤ (n : Int) := by omega
          clear e0 e1 f0 f1
          (refine wp_region_later (by kernel_rfl) (by kernel_rfl) ?_; (repeat (first | go_big_quiet_step ((fail)) | quiet_step ((fail)))); refine wpQuiet_nil ?_; intro _ hw1; obtain ⟨pr, hw2⟩ := hw1; subst hw2)
          have hbf := pr.ok
          have HBF := Lib.hid (HBE.out.trans (hbf.mono HBE.out.size) : Below w1.heap.size w1 pr.val)
          have rT := (hbf.block T (row_lt RTe.out)).trans RTe.out
          have rS := (hbf.block w.heap.size (row_lt RSe.out)).trans RSe.out
          have KC3 := Lib.hid (fun W (hW : Below pr.val.heap.size pr.val W) => KC2.out W (hbf.trans (hW.mono hbf.size)))
          generalize pr.val = wf at *
          clear F0 S0 V1 V2 hbf
          have RTf := Lib.hid rT
          have RSf := Lib.hid rS
          have e0 : wf.cell? ⟨w.heap.size, 0, none⟩ = some (.slice A n c) := cell_of_row _ _ 0 _ _ _ rS
          have f0 : wf.cell? ⟨T, 0, none⟩ = some (.slice A4 D.length c4) := cell_of_row _ _ 0 _ _ _ rT
          have f1 : wf.cell? ⟨T, 1, none⟩ = some (.int .i64 P) := cell_of_row _ _ 1 _ _ _ rT
          clear rT rS
          have KC4 := Lib.hid (KC3.out wf (Below.refl _ _))
          go_wp2_with fail
          rcases HCV.out with ⟨hc1, hc2, hc3⟩ | ⟨hc1, P', hc3⟩
          · rw [hc3] at KC4
            refine KC4.out.mono ?_
            rintro e w6 ⟨A6, c6, rfl, ho6, hb6⟩
            dsimp only [Sto.zero, List.length_nil] at ho6 ⊢
            have rT := (hb6.block T (row_lt RTf.out)).trans RTf.out
            have rS := (hb6.block w.heap.size (row_lt RSf.out)).trans RSf.out
            have HB6 := Lib.hid (HBF.out.trans (hb6.mono HBF.out.size))
            have e0 : w6.cell? ⟨w.heap.size, 0, none⟩ = some (.slice A n c) := cell_of_row _ _ 0 _ _ _ rS
            have f0 : w6.cell? ⟨T, 0, none⟩ = some (.slice A4 D.length c4) := cell_of_row _ _ 0 _ _ _ rT
            have f1 : w6.cell? ⟨T, 1, none⟩ = some (.int .i64 P) := cell_of_row _ _ 1 _ _ _ rT
            have l1 := row_lt rT
            have l2 := row_lt rS
            have k3 : (n : Int) < (D.length : Int) := by omega
            have k4 : (P == 0) = true := by simpa using hc2
            clear hc1 hc2 hc3 rT rS hb6 ho6 KC4
            go_wp2_with fail
            go_ret
            refine ⟨rfl, ?_⟩
            have := HB1.out.trans (HB6.out.mono HB1.out.size)
            go_grown
          · rw [hc3] at KC4
            refine KC4.out.mono ?_
            rintro e w6 ⟨A6, c6, rfl, ho6, hb6⟩
            dsimp only at ho6 ⊢
            have HO6 := Lib.hid ho6
            have rT := (hb6.block T (row_lt RTf.out)).trans RTf.out
            have rS := (hb6.block w.heap.size (row_lt RSf.out)).trans RSf.out
            have HB6 := Lib.hid (HBF.out.trans (hb6.mono HBF.out.size))
            have e0 : w6.cell? ⟨w.heap.size, 0, none⟩ = some (.slice A n c) := cell_of_row _ _ 0 _ _ _ rS
            have f0 : w6.cell? ⟨T, 0, none⟩ = some (.slice A4 D.length c4) := cell_of_row _ _ 0 _ _ _ rT
            have f1 : w6.cell? ⟨T, 1, none⟩ = some (.int .i64 P) := cell_of_row _ _ 1 _ _ _ rT
            have l1 := row_lt rT
            have l2 := row_lt rS
            have V3 := fun W (hW : Below w6.heap.size w6 W) => Lib.hid (((Bys.of_own HO6.out).to hW).conv (P := Try.prog) 25 5 9 c6 Try.underlying25 Try.underlying5 Try.underlying9)
            have V4 := fun W (hW : Below w6.heap.size w6 W) => Lib.hid ((HS.out.to (HB6.out.trans (hW.mono HB6.out.size))).conv (P := Try.prog) 25 5 9 c Try.underlying25 Try.underlying5 Try.underlying9)
            have v3 := (V3 (w6.alloc (.cells #[.slice A6 d.length c6, .int .i64 P'] 27)) (by go_grown)).out
            have v4 := (V4 (w6.alloc (.cells #[.slice A6 d.length c6, .int .i64 P'] 27)) (by go_grown)).out
            clear rT rS hb6 ho6 KC4 V3 V4 hc3
            by_cases hnd : n < D.length
            · have k3 : (n : Int) < (D.length : Int) := by omega
              have k4 : (P == 0) = false := by rw [beq_eq_false_iff_ne]; exact fun e => hc1 ⟨hnd, e⟩
              first
                | (exfalso; rw [k4] at j9; cases j9; done)
                | (clear hc1 hnd
                   go_wp2_with fail
                   go_ret
                   refine ⟨rfl, ?_⟩
                   have := HB1.out.trans (HB6.out.mono HB1.out.size)
                   go_grown)
            · have k3 : (D.length : Int) ≤ (n : Int) := by omega
              clear hc1 hnd
              go_wp2_with fail
              go_ret
              refine ⟨rfl, ?_⟩
              have := HB1.out.trans (HB6.out.mono HB1.out.size)
              go_grown
end Go.Proofs.Ytbkicepkkcambaa
