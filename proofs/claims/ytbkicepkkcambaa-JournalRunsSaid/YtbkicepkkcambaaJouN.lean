/- Add. -/
import Derived.Test.YtbkicepkkcambaaJouM
import Derived.Deep.Cut
namespace Go.Proofs.Ytbkicepkkcambaa
open Go.RowKit BigFrame Go.Shelf
set_option linter.unusedVariables false
set_option linter.unusedSimpArgs false

/-- A call that hands back a log and an error. -/
def GivesLg (w : World) (r : Lg × Int) (e : Ending) (w' : World) : Prop :=
  ∃ A c, e = .returned (.tuple #[.agg #[.slice A r.1.data.length c, .int .i64 r.1.power, .int .i64 r.1.count, .bool r.1.down], .int .i64 r.2]) ∧
    w'.ownsRow w.heap.size 5 1 (.slice A r.1.data.length c) r.1.data.length (bys r.1.data) ∧ Below w.heap.size w w'
theorem lg_zero {w w' : World} (er : Int) (h : Below w.heap.size w w') : GivesLg w (Lg.zero, er) (.returned (.tuple #[.agg #[.slice none 0 0, .int .i64 0, .int .i64 0, .bool false], .int .i64 er])) w' :=
  ⟨none, 0, rfl, World.ownsRow_nil _ _ _ _, h⟩

theorem own_cap {w : World} {base : Nat} {e : TypeId} {size n c : Nat} {A : Option Addr} {xs : List Value} (h : w.ownsRow base e size (.slice A n c) n xs) : n ≤ c ∧ c ≤ 9223372036854775807 := by
  obtain ⟨A', c', hv, h1, h2⟩ := own_shape h
  obtain rfl : c = c' := by injection hv
  exact ⟨h1, h2⟩
theorem addR_go {d x : Bytes} {p k : Int} (hv : rightB ⟨d, p, k, false⟩ = true) (h1 : ¬ 4096 < x.length) (h2 : k ≠ 65536) (h3 : ¬ 1048576 < d.length + x.length + 10) :
    addR ⟨d, p, k, false⟩ x = if wroteE ⟨d, p⟩ (formed (k.toNat + 1) x) ≠ 0 then (⟨(wrote ⟨d, p⟩ (formed (k.toNat + 1) x)).data, (wrote ⟨d, p⟩ (formed (k.toNat + 1) x)).power, k, true⟩, wroteE ⟨d, p⟩ (formed (k.toNat + 1) x)) else (⟨(wrote ⟨d, p⟩ (formed (k.toNat + 1) x)).data, (wrote ⟨d, p⟩ (formed (k.toNat + 1) x)).power, k + 1, false⟩, 0) := by
  have a1 : ¬ (rightB ⟨d, p, k, false⟩ = false ∨ 4096 < x.length) := fun h => h.elim (fun h => by rw [hv] at h; cases h) h1
  have a2 : ¬ (k = 65536 ∨ 1048576 < d.length + x.length + 10) := fun h => h.elim h2 h3
  unfold addR
  rw [if_neg a1, if_neg (by simp), if_neg a2]
  rfl

set_option maxRecDepth 100000 in
set_option maxHeartbeats 4000000 in
theorem add_any (A A1 : Option Addr) (n c n1 c1 : Nat) (p k : Int) (down : Bool) (d x : Bytes) (w : World) (h : Bys w w.heap.size A n d) (hx : Bys w w.heap.size A1 n1 x) (hn : n ≤ 10000000000) (hnc : n ≤ c) (hc63 : c ≤ 9223372036854775807) (hn1 : n1 ≤ 10000000000) (hnc1 : n1 ≤ c1) (hp : p ≤ 9223372036854775807) :
    Calls Try.prog 19 #[.agg #[.slice A n c, .int .i64 p, .int .i64 k, .bool down], .slice A1 n1 c1] w (GivesLg w (addR ⟨d, p, k, down⟩ x)) := by
  have hxl := h.len
  have hx1 := hx.len
  cases hv : rightB ⟨d, p, k, down⟩ with
  | false =>
    have HR := Lib.hid (show (Lg.zero, (2 : Int)) = addR ⟨d, p, k, down⟩ x by unfold addR; rw [if_pos (.inl hv)])
    clear hxl hx1
    have HV := Lib.hid hv
    have HH := Lib.hid h
    clear hv h
    go_enter Try.func19, Try.ntmps19
    go_wp2_with fail
    refine (right_log A n c p _ down d _ (HH.out.to (by go_grown)) (by omega) hnc (by omega)).mono ?_
    rintro e w1 ⟨rfl, hb1⟩
    rw [HV.out]
    obtain ⟨hc, hf⟩ := bcell hb1
    have hz : w.heap.size + 1 < w1.heap.size := by have := hb1.size; simp at this; omega
    have HB1 := Lib.hid (Below.trans (by go_grown) (hb1.mono (by first | omega | (simp; done) | (simp; omega))) : Below w.heap.size w w1)
    go_wp2_with fail
    refine bodyPost_ret (v := .tuple #[.agg #[.slice none 0 0, .int .i64 0, .int .i64 0, .bool false], .int .i64 2]) (by simp [results, Try.results19, go_sem, hc, hf, hz]) rfl ?_
    exact HR.out ▸ lg_zero 2 ((((HB1.out.setCell (by simp) _).setCell (by simp) _).setCell (by simp) _).setCell (by simp) _)
  | true =>
    by_cases h1 : 4096 < n1
    · have i1 : (4096 : Int) < n1 := by omega
      have HR := Lib.hid (show (Lg.zero, (2 : Int)) = addR ⟨d, p, k, down⟩ x by unfold addR; rw [if_pos (.inr (by omega))])
      clear hxl hx1
      have HV := Lib.hid hv
      have HH := Lib.hid h
      clear hv h
      go_enter Try.func19, Try.ntmps19
      go_wp2_with fail
      refine (right_log A n c p _ down d _ (HH.out.to (by go_grown)) (by omega) hnc (by omega)).mono ?_
      rintro e w1 ⟨rfl, hb1⟩
      rw [HV.out]
      obtain ⟨hc, hf⟩ := bcell hb1
      have hz : w.heap.size + 1 < w1.heap.size := by have := hb1.size; simp at this; omega
      have HB1 := Lib.hid (Below.trans (by go_grown) (hb1.mono (by first | omega | (simp; done) | (simp; omega))) : Below w.heap.size w w1)
      go_wp2_with fail
      refine bodyPost_ret (v := .tuple #[.agg #[.slice none 0 0, .int .i64 0, .int .i64 0, .bool false], .int .i64 2]) (by simp [results, Try.results19, go_sem, hc, hf, hz]) rfl ?_
      exact HR.out ▸ lg_zero 2 ((((HB1.out.setCell (by simp) _).setCell (by simp) _).setCell (by simp) _).setCell (by simp) _)
    · have i1 : (n1 : Int) ≤ 4096 := by omega
      cases down with
      | true =>
        have HR := Lib.hid (show (Lg.zero, (371 : Int)) = addR ⟨d, p, k, true⟩ x by unfold addR; rw [if_neg (by simp [hv]; omega), if_pos rfl])
        clear hxl hx1
        have HV := Lib.hid hv
        have HH := Lib.hid h
        clear hv h
        go_enter Try.func19, Try.ntmps19
        go_wp2_with fail
        refine (right_log A n c p _ true d _ (HH.out.to (by go_grown)) (by omega) hnc (by omega)).mono ?_
        rintro e w1 ⟨rfl, hb1⟩
        rw [HV.out]
        obtain ⟨hc, hf⟩ := bcell hb1
        have hz : w.heap.size + 1 < w1.heap.size := by have := hb1.size; simp at this; omega
        have HB1 := Lib.hid (Below.trans (by go_grown) (hb1.mono (by first | omega | (simp; done) | (simp; omega))) : Below w.heap.size w w1)
        go_wp2_with fail
        refine bodyPost_ret (v := .tuple #[.agg #[.slice none 0 0, .int .i64 0, .int .i64 0, .bool false], .int .i64 371]) (by simp [results, Try.results19, go_sem, hc, hf, hz]) rfl ?_
        exact HR.out ▸ lg_zero 371 ((((HB1.out.setCell (by simp) _).setCell (by simp) _).setCell (by simp) _).setCell (by simp) _)
      | false =>
        by_cases h2 : k = 65536
        · have i2 : (k == 65536) = true := by simpa using h2
          have HR := Lib.hid (show (Lg.zero, (4 : Int)) = addR ⟨d, p, k, false⟩ x by unfold addR; rw [if_neg (by simp [hv]; omega), if_neg (by simp), if_pos (.inl h2)])
          clear hxl hx1 h2
          have HV := Lib.hid hv
          have HH := Lib.hid h
          clear hv h
          go_enter Try.func19, Try.ntmps19
          go_wp2_with fail
          refine (right_log A n c p _ false d _ (HH.out.to (by go_grown)) (by omega) hnc (by omega)).mono ?_
          rintro e w1 ⟨rfl, hb1⟩
          rw [HV.out]
          obtain ⟨hc, hf⟩ := bcell hb1
          have hz : w.heap.size + 1 < w1.heap.size := by have := hb1.size; simp at this; omega
          have HB1 := Lib.hid (Below.trans (by go_grown) (hb1.mono (by first | omega | (simp; done) | (simp; omega))) : Below w.heap.size w w1)
          go_wp2_with fail
          refine bodyPost_ret (v := .tuple #[.agg #[.slice none 0 0, .int .i64 0, .int .i64 0, .bool false], .int .i64 4]) (by simp [results, Try.results19, go_sem, hc, hf, hz]) rfl ?_
          exact HR.out ▸ lg_zero 4 ((((HB1.out.setCell (by simp) _).setCell (by simp) _).setCell (by simp) _).setCell (by simp) _)
        · have i2 : (k == 65536) = false := by simpa using h2
          by_cases h3 : 1048576 < n + n1 + 10
          · have i3 : (1048576 : Int) < (n : Int) + n1 + 10 := by omega
            have HR := Lib.hid (show (Lg.zero, (4 : Int)) = addR ⟨d, p, k, false⟩ x by unfold addR; rw [if_neg (by simp [hv]; omega), if_neg (by simp), if_pos (.inr (by dsimp only; omega))])
            clear hxl hx1 h2
            have HV := Lib.hid hv
            have HH := Lib.hid h
            clear hv h
            go_enter Try.func19, Try.ntmps19
            go_wp2_with fail
            refine (right_log A n c p _ false d _ (HH.out.to (by go_grown)) (by omega) hnc (by omega)).mono ?_
            rintro e w1 ⟨rfl, hb1⟩
            rw [HV.out]
            obtain ⟨hc, hf⟩ := bcell hb1
            have hz : w.heap.size + 1 < w1.heap.size := by have := hb1.size; simp at this; omega
            have HB1 := Lib.hid (Below.trans (by go_grown) (hb1.mono (by first | omega | (simp; done) | (simp; omega))) : Below w.heap.size w w1)
            go_wp2_with fail
            refine bodyPost_ret (v := .tuple #[.agg #[.slice none 0 0, .int .i64 0, .int .i64 0, .bool false], .int .i64 4]) (by simp [results, Try.results19, go_sem, hc, hf, hz]) rfl ?_
            exact HR.out ▸ lg_zero 4 ((((HB1.out.setCell (by simp) _).setCell (by simp) _).setCell (by simp) _).setCell (by simp) _)
          · have i3 : decide ((1048576 : Int) < (n : Int) + n1 + 10) = false := by rw [decide_eq_false_iff_not]; omega
            obtain ⟨q, hkq, hq⟩ : ∃ q : Nat, k = q ∧ q ≤ 65536 := by
              have := scan_short d
              unfold rightB at hv
              simp only [Bool.and_eq_true, decide_eq_true_eq] at hv
              exact ⟨(scan d).length, hv.1.2.symm, this⟩
            have hp0 : -1 ≤ p := by
              unfold rightB stoOk Lg.sto at hv
              simp only [Bool.and_eq_true, decide_eq_true_eq] at hv
              exact hv.1.1.2
            obtain ⟨y, hy⟩ : ∃ y, formed (q + 1) x = y := ⟨_, rfl⟩
            obtain ⟨D, P, E, hr⟩ : ∃ (D : Bytes) (P E : Int), (wrote ⟨d, p⟩ y, wroteE ⟨d, p⟩ y) = ((⟨D, P⟩ : Sto), E) := ⟨_, _, _, rfl⟩
            have hr1 : wrote ⟨d, p⟩ y = ⟨D, P⟩ := congrArg Prod.fst hr
            have hr2 : wroteE ⟨d, p⟩ y = E := congrArg Prod.snd hr
            have HR := Lib.hid (show (if E ≠ 0 then (⟨D, P, k, true⟩, E) else (⟨D, P, k + 1, false⟩, 0) : Lg × Int) = addR ⟨d, p, k, false⟩ x by
              rw [addR_go hv (by omega) h2 (by omega), show k.toNat = q by omega, hy, hr1, hr2])
            have HX := Lib.hid hx
            have KF0 := Lib.hid (fun W (hW : Below w.heap.size w W) => formed_any (q + 1) A1 n1 c1 x W (HX.out.to hW) (by omega) (by omega))
            rw [hy] at KF0
            have KW0 : Hid (∀ (W : World) (A2 : Option Addr) (c2 : Nat), Below w.heap.size w W → Bys W W.heap.size A2 (n1 + 10) y → n1 + 10 ≤ c2 → c2 ≤ 9223372036854775807 →
                Calls Try.prog 34 #[.agg #[.slice A n c, .int .i64 p], .slice A2 (n1 + 10) c2] W fun e w' => ∃ A3 c3, e = .returned (.tuple #[.agg #[.slice A3 D.length c3, .int .i64 P], .int .i64 E]) ∧ w'.ownsRow W.heap.size 5 1 (.slice A3 D.length c3) D.length (bys D) ∧ Below W.heap.size W w') :=
              Lib.hid fun W A2 c2 hA hY g1 g2 => by
                have := written_any A A2 n c (n1 + 10) c2 p d y W (h.to hA) hY (by omega) (by omega) g1 g2 hp hp0
                rw [hr] at this
                exact this
            have ek : ((q + 1 : Nat) : Int) = k + 1 := by omega
            rw [ek] at KF0
            have i5 : 0 ≤ k := by omega
            have i6 : k ≤ 65535 := by omega
            clear i2 h3
            clear hxl hx1 h2 hy hr hr1 hr2 hx ek hkq hq
            have HV := Lib.hid hv
            have HH := Lib.hid h
            clear hv h
            go_enter Try.func19, Try.ntmps19
            go_wp2_with fail
            refine (right_log A n c p _ false d _ (HH.out.to (by go_grown)) (by omega) hnc (by omega)).mono ?_
            rintro e w1 ⟨rfl, hb1⟩
            rw [HV.out]
            obtain ⟨hc, hf⟩ := bcell hb1
            have hz : w.heap.size + 1 < w1.heap.size := by have := hb1.size; simp at this; omega
            have HB1 := Lib.hid (Below.trans (by go_grown) (hb1.mono (by first | omega | (simp; done) | (simp; omega))) : Below w.heap.size w w1)
            have x0 := Lib.hid ((hb1.block w.heap.size (by first | omega | (simp; done) | (simp; omega))).trans (show _ = some (Obj.cells #[.slice A n c, .int .i64 p, (.int .i64 k), .bool false] 29 (0, 0)) from (by (try rw [get_drew]); simp only [get_alloc, get_set, World.size_alloc, World.size_setCell]; simp [Nat.add_assoc])))
            have x1 := Lib.hid ((hb1.block (w.heap.size + 1) (by first | omega | (simp; done) | (simp; omega))).trans (show _ = some (Obj.cells #[.slice none 0 0, .int .i64 0, .int .i64 0, .bool false] 29 (0, 0)) from (by (try rw [get_drew]); simp only [get_alloc, get_set, World.size_alloc, World.size_setCell]; simp [Nat.add_assoc])))
            have KF := Lib.hid (fun W (hW : Below w1.heap.size w1 W) => KF0.out W (HB1.out.trans (hW.mono HB1.out.size)))
            have KW := Lib.hid (fun W A2 c2 (hW : Below w1.heap.size w1 W) => KW0.out W A2 c2 (HB1.out.trans (hW.mono HB1.out.size)))
            have e0 : w1.cell? ⟨w.heap.size, 0, none⟩ = some (.slice A n c) := cell_of_row _ _ 0 _ _ _ x0.out
            have e1 : w1.cell? ⟨w.heap.size, 1, none⟩ = some (.int .i64 p) := cell_of_row _ _ 1 _ _ _ x0.out
            have e2 : w1.cell? ⟨w.heap.size, 2, none⟩ = some (.int .i64 k) := cell_of_row _ _ 2 _ _ _ x0.out
            have e3 : w1.cell? ⟨w.heap.size, 3, none⟩ = some (.bool false) := cell_of_row _ _ 3 _ _ _ x0.out
            have KEEP : Hid (∀ W', Below w1.heap.size w1 W' → W'.cell? ⟨w.heap.size, 0, none⟩ = some (.slice A n c) ∧ W'.cell? ⟨w.heap.size, 1, none⟩ = some (.int .i64 p) ∧ W'.cell? ⟨w.heap.size, 2, none⟩ = some (.int .i64 k)) :=
              Lib.hid fun W' hW' => ⟨(hW'.cell (p := ⟨w.heap.size, 0, none⟩) (by dsimp only; omega)).trans e0, (hW'.cell (p := ⟨w.heap.size, 1, none⟩) (by dsimp only; omega)).trans e1, (hW'.cell (p := ⟨w.heap.size, 2, none⟩) (by dsimp only; omega)).trans e2⟩
            clear hb1 hc hf
            go_wp2_with fail
            have i4 : IntKind.i64.wrap (k + 1) = k + 1 := IntWalk.i64_in _ (by omega)
            refine wp_region_held_drew (S := fun W' => W'.cell? ⟨w.heap.size, 0, none⟩ = some (.slice A n c) ∧ W'.cell? ⟨w.heap.size, 1, none⟩ = some (.int .i64 p) ∧ W'.cell? ⟨w.heap.size, 2, none⟩ = some (.int .i64 k)) (by kernel_rfl) (KEEP.out _ (by go_grown)) (fun hS => ?_)
            clear e0 e1 e2 e3
            refine wpAnyH_take (i := 0) (oi := ⟨some 39, _, _, _, _, _⟩) (v := ?_) rfl (by kernel_rfl) (by kernel_rfl) (by kernel_rfl) (fun _ _ _ h => h) (Or.inl ⟨by rfl, ?_⟩) hS ?_
            rotate_left
            · (intro _ hW; obtain ⟨hW0, hW1, hW2⟩ := hW; go_simp; try (with_reducible rfl))
            try simp only [Act.put, List.setIfInBounds_toArray, List.set_cons_zero, List.set_cons_succ]
            refine wpAnyH_take (i := 2) (oi := ⟨some 41, _, _, _, _, _⟩) (v := ?_) rfl (by kernel_rfl) (by kernel_rfl) (by kernel_rfl) (fun _ _ _ h => h) (Or.inl ⟨by rfl, ?_⟩) hS ?_
            rotate_left
            · (intro _ hW; obtain ⟨hW0, hW1, hW2⟩ := hW; go_simp; try (with_reducible rfl))
            try simp only [Act.put, List.setIfInBounds_toArray, List.set_cons_zero, List.set_cons_succ]
            refine wpAnyH_take (i := 1) (oi := ⟨some 40, _, _, _, _, _⟩) (v := ?_) rfl (by kernel_rfl) (by kernel_rfl) (by kernel_rfl) (fun _ _ _ h => h) (Or.inl ⟨by rfl, ?_⟩) hS ?_
            rotate_left
            · (intro _ hW; obtain ⟨hW0, hW1, hW2⟩ := hW; go_simp; try (with_reducible rfl))
            try simp only [Act.put, List.setIfInBounds_toArray, List.set_cons_zero, List.set_cons_succ]
            refine wpAnyH_take (i := 3) (oi := ⟨some 42, _, _, _, _, _⟩) (v := ?_) rfl (by kernel_rfl) (by kernel_rfl) (by kernel_rfl) (fun _ _ _ h => h) (Or.inl ⟨by rfl, ?_⟩) hS ?_
            rotate_left
            · (intro _ hW; obtain ⟨hW0, hW1, hW2⟩ := hW; go_simp; try (with_reducible rfl))
            try simp only [Act.put, List.setIfInBounds_toArray, List.set_cons_zero, List.set_cons_succ]
            refine wpAnyH_take (i := 4) (oi := ⟨some 43, _, _, _, _, _⟩) (v := ?_) rfl (by kernel_rfl) (by kernel_rfl) (by kernel_rfl) (fun _ _ _ h => h) (Or.inl ⟨by rfl, ?_⟩) hS ?_
            rotate_left
            · (intro _ hW; obtain ⟨hW0, hW1, hW2⟩ := hW; go_simp; try (with_reducible rfl))
            try simp only [Act.put, List.setIfInBounds_toArray, List.set_cons_zero, List.set_cons_succ]
            refine wpAnyH_take (i := 5) (oi := ⟨some 44, _, _, _, _, _⟩) (v := ?_) rfl (by kernel_rfl) (by kernel_rfl) (by kernel_rfl) (fun _ _ _ h => h) (Or.inl ⟨by rfl, ?_⟩) hS ?_
            rotate_left
            · (intro _ hW; obtain ⟨hW0, hW1, hW2⟩ := hW; go_simp; try (with_reducible rfl))
            try simp only [Act.put, List.setIfInBounds_toArray, List.set_cons_zero, List.set_cons_succ]
            refine wpAnyH_ready (rs := [6, 11]) (by kernel_rfl) (by simp) ?_
            refine AllReadyH.cons rfl (fun K hK => ?_) (AllReadyH.cons rfl (fun K hK => ?_) AllReadyH.nil)
            · go_simp
              go_at_call 35
              (with_reducible refine (KF.out _ (by go_grown)).mono ?_)
              rintro e w2 ⟨A2, c2, rfl, ho2, hb2⟩
              obtain ⟨hc2, hc2'⟩ := own_cap ho2
              have hbF : Below w1.heap.size w1 w2 := Below.trans (by go_grown) (hb2.mono (by first | omega | (simp; done) | (simp; omega)))
              have hsF := hbF.size
              refine hK.out _ _ ?_ (fun hS => ?_)
              · exact KEEP.out _ (by go_grown)
              clear hK K
              try simp only [Act.put, List.setIfInBounds_toArray, List.set_cons_zero, List.set_cons_succ]
              refine wpAnyH_ready (rs := [7, 11]) (by kernel_rfl) (by simp) ?_
              refine AllReadyH.cons rfl (fun K hK => ?_) (AllReadyH.cons rfl (fun K hK => ?_) AllReadyH.nil)
              · go_simp
                go_at_call 34
                (with_reducible refine (KW.out _ A2 c2 (by go_grown) ((Bys.of_own ho2).to (by go_grown)) hc2 hc2').mono ?_)
                rintro e w3 ⟨A3, c3, rfl, ho3, hb3⟩
                have hbG : Below w1.heap.size w1 w3 := Below.trans (by go_grown) (hb3.mono (by first | omega | (simp; done) | (simp; omega)))
                have hsG := hbG.size
                refine hK.out _ _ ?_ (fun hS => ?_)
                · exact KEEP.out _ (by go_grown)
                clear hK K
                try simp only [Act.put, List.setIfInBounds_toArray, List.set_cons_zero, List.set_cons_succ]
                refine wpAnyH_take (i := 8) (oi := ⟨some 38, _, _, _, _, _⟩) (v := ?_) rfl (by kernel_rfl) (by kernel_rfl) (by kernel_rfl) (fun _ _ _ h => h) (Or.inl ⟨by rfl, ?_⟩) hS ?_
                rotate_left
                · (intro _ hW; obtain ⟨hW0, hW1, hW2⟩ := hW; go_simp; try (with_reducible rfl))
                try simp only [Act.put, List.setIfInBounds_toArray, List.set_cons_zero, List.set_cons_succ]
                refine wpAnyH_take (i := 9) (oi := ⟨some 47, _, _, _, _, _⟩) (v := ?_) rfl (by kernel_rfl) (by kernel_rfl) (by kernel_rfl) (fun _ _ _ h => h) (Or.inl ⟨by rfl, ?_⟩) hS ?_
                rotate_left
                · (intro _ hW; obtain ⟨hW0, hW1, hW2⟩ := hW; go_simp; try (with_reducible rfl))
                try simp only [Act.put, List.setIfInBounds_toArray, List.set_cons_zero, List.set_cons_succ]
                refine wpAnyH_take (i := 10) (oi := ⟨some 48, _, _, _, _, _⟩) (v := ?_) rfl (by kernel_rfl) (by kernel_rfl) (by kernel_rfl) (fun _ _ _ h => h) (Or.inl ⟨by rfl, ?_⟩) hS ?_
                rotate_left
                · (intro _ hW; obtain ⟨hW0, hW1, hW2⟩ := hW; go_simp; try (with_reducible rfl))
                try simp only [Act.put, List.setIfInBounds_toArray, List.set_cons_zero, List.set_cons_succ]
                refine wpAnyH_ready (rs := [11]) (by kernel_rfl) (by simp) ?_
                refine AllReadyH.cons rfl (fun K hK => ?_) AllReadyH.nil
                go_simp
                refine hK.out _ _ ?_ (fun hS => ?_)
                · exact KEEP.out _ (by go_grown)
                clear hK K
                try simp only [Act.put, List.setIfInBounds_toArray, List.set_cons_zero, List.set_cons_succ]
                obtain ⟨wX, hwX⟩ : ∃ wX, wX = (w3.alloc (.cells #[.slice none 0 0, .int .i64 0] 27)) := ⟨_, rfl⟩
                rw [← hwX]
                have hbX : Below w1.heap.size w1 wX := by rw [hwX]; go_grown
                obtain ⟨T, hT⟩ : ∃ T, T = w3.heap.size := ⟨_, rfl⟩
                rw [← hT]
                have hTl : w1.heap.size ≤ T := by rw [hT]; first | omega | (simp; done) | (simp; omega)
                have hTr : wX.heap[T]? = some (.cells #[.slice none 0 0, .int .i64 0] 27 (0, 0)) := by rw [hwX, hT]; exact heap_at rfl
                have hoX : wX.ownsRow w1.heap.size 5 1 (.slice A3 D.length c3) D.length (bys D) := by rw [hwX]; exact (own_more ho3 hbF.size).alloc _
                have HNE : Hid (∀ k, (Value.slice A3 D.length c3).ownBlock = some k → w1.heap.size ≤ k ∧ k ≠ T) := Lib.hid fun k hk => ⟨(hoX.lt k hk).1, fun e => row_ne hTr hoX (by decide) (hk.trans (congrArg some e))⟩
                have r0 := (hbX.block w.heap.size (row_lt x0.out)).trans x0.out
                have r1 := (hbX.block (w.heap.size + 1) (row_lt x1.out)).trans x1.out
                have HBX := Lib.hid (HB1.out.trans (hbX.mono HB1.out.size))
                have HOX := Lib.hid hoX
                clear hbF hbG hb2 hb3 ho2 ho3 hc2 hc2' hT hwX hS hsF hsG hoX
                have m0 : ¬ w.heap.size = T := by omega
                have m1 : ¬ w.heap.size + 1 = T := by omega
                have m2 : ¬ T = w.heap.size := by omega
                have m3 : ¬ T = w.heap.size + 1 := by omega
                have t0 := cell_of_row _ _ 0 _ _ _ hTr
                have t1 := cell_of_row _ _ 1 _ _ _ hTr
                have tf0 := frozen_of_row _ _ 0 _ _ hTr
                have tf1 := frozen_of_row _ _ 1 _ _ hTr
                have tl := row_lt hTr
                have e0 := cell_of_row _ _ 0 _ _ _ r0
                have e1 := cell_of_row _ _ 1 _ _ _ r0
                have e2 := cell_of_row _ _ 2 _ _ _ r0
                have e3 := cell_of_row _ _ 3 _ _ _ r0
                have f0 := frozen_of_row _ _ 0 _ _ r0
                have f1 := frozen_of_row _ _ 1 _ _ r0
                have f2 := frozen_of_row _ _ 2 _ _ r0
                have f3 := frozen_of_row _ _ 3 _ _ r0
                have l0 := row_lt r0
                have d0 := cell_of_row _ _ 0 _ _ _ r1
                have d1 := cell_of_row _ _ 1 _ _ _ r1
                have d2 := cell_of_row _ _ 2 _ _ _ r1
                have d3 := cell_of_row _ _ 3 _ _ _ r1
                have g0 := frozen_of_row _ _ 0 _ _ r1
                have g1 := frozen_of_row _ _ 1 _ _ r1
                have g2 := frozen_of_row _ _ 2 _ _ r1
                have g3 := frozen_of_row _ _ 3 _ _ r1
                have l1 := row_lt r1
                have R0 := Lib.hid r0
                have R1 := Lib.hid r1
                clear r0 r1 hTr
                refine wpAnyH_ready (rs := [12]) (by kernel_rfl) (by simp) ?_
                refine AllReadyH.cons rfl (fun K hK => ?_) AllReadyH.nil
                go_simp
                refine hK.out _ _ (KEEP.out _ ((hbX.setCell (by dsimp only; omega) _).setCell (by dsimp only; omega) _)) (fun hS => ?_)
                clear hK K hbX
                refine wpAnyH_take (i := 13) (oi := ⟨some 7, _, _, _, _, _⟩) (v := ?_) rfl (by kernel_rfl) (by kernel_rfl) (by kernel_rfl) (fun _ _ _ h => h) (Or.inl ⟨by rfl, ?_⟩) hS ?_
                rotate_left
                · (intro _ hW; obtain ⟨hW0, hW1, hW2⟩ := hW; go_simp; try (with_reducible rfl))
                try simp only [Act.put, List.setIfInBounds_toArray, List.set_cons_zero, List.set_cons_succ]
                refine wpAnyH_done (by kernel_rfl) ?_ _
                clear hS i4
                go_upto_region 9 with (fail)
                generalize hwY : World.setCell (World.setCell (World.setCell (World.setCell wX _ _) _ _) _ _) _ _ = wY
                have y0 : wY.heap[w.heap.size]? = some (.cells #[.slice A3 D.length c3, .int .i64 P, .int .i64 k, .bool false] 29 (0, 0)) := by
                  rw [← hwY]
                  exact set_row (set_row (far_row (far_row R0.out m0 _) m0 _) _) _
                have y1 : wY.heap[w.heap.size + 1]? = some (.cells #[.slice none 0 0, .int .i64 0, .int .i64 0, .bool false] 29 (0, 0)) := by
                  rw [← hwY]
                  exact far_row (far_row (far_row (far_row R1.out m1 _) m1 _) (by simp) _) (by simp) _
                have HOY : Hid (wY.ownsRow w1.heap.size 5 1 (.slice A3 D.length c3) D.length (bys D)) := by
                  rw [← hwY]
                  refine Lib.hid (own_set (own_set (own_set (own_set HOX.out ?_ _) ?_ _) ?_ _) ?_ _)
                  all_goals
                    intro k hk e
                    have := HNE.out k hk
                    dsimp only at e
                    omega
                have HBY : Hid (Below w.heap.size w wY) := by
                  rw [← hwY]
                  exact Lib.hid ((((HBX.out.setCell (by dsimp only; omega) _).setCell (by dsimp only; omega) _).setCell (by dsimp only; omega) _).setCell (by dsimp only; omega) _)
                clear hwY HOX HBX R0 R1 e0 e1 e2 e3 f0 f1 f2 f3 l0 d0 d1 d2 d3 g0 g1 g2 g3 l1 t0 t1 tf0 tf1 tl
                have e0 := cell_of_row _ _ 0 _ _ _ y0
                have e1 := cell_of_row _ _ 1 _ _ _ y0
                have e2 := cell_of_row _ _ 2 _ _ _ y0
                have e3 := cell_of_row _ _ 3 _ _ _ y0
                have f0 := frozen_of_row _ _ 0 _ _ y0
                have f1 := frozen_of_row _ _ 1 _ _ y0
                have f2 := frozen_of_row _ _ 2 _ _ y0
                have f3 := frozen_of_row _ _ 3 _ _ y0
                have l0 := row_lt y0
                have d0 := cell_of_row _ _ 0 _ _ _ y1
                have d1 := cell_of_row _ _ 1 _ _ _ y1
                have d2 := cell_of_row _ _ 2 _ _ _ y1
                have d3 := cell_of_row _ _ 3 _ _ _ y1
                have g0 := frozen_of_row _ _ 0 _ _ y1
                have g1 := frozen_of_row _ _ 1 _ _ y1
                have g2 := frozen_of_row _ _ 2 _ _ y1
                have g3 := frozen_of_row _ _ 3 _ _ y1
                have l1 := row_lt y1
                clear y0 y1
                by_cases hE : E = 0
                · have i7 : (E == 0) = true := by simpa using hE
                  have i8 : (E != 0) = false := by simpa using hE
                  have HR2 : Hid ((⟨D, P, k + 1, false⟩, 0) = addR ⟨d, p, k, false⟩ x) := Lib.hid (by rw [← HR.out, if_neg (by simp [hE])])
                  clear hE HR
                  go_wp2_with fail
                  refine bodyPost_ret (v := .tuple #[.agg #[.slice A3 D.length c3, .int .i64 P, .int .i64 (k + 1), .bool false], .int .i64 0]) (by simp [results, Try.results19, go_sem, e0, e1, e2, e3, d0, d1, d2, d3]) rfl ?_
                  rw [← HR2.out]
                  refine ⟨A3, c3, rfl, own_more (base := w1.heap.size) ?_ (by omega), ?_⟩
                  · repeat' (first
                      | (with_reducible exact HOY.out)
                      | (with_reducible refine own_set ?_ ?_ _)
                      | (intro k hk e; have := HNE.out k hk; dsimp only at e; omega))
                  · have hbx := HBY.out
                    go_grown
                · have i7 : (E == 0) = false := by simpa using hE
                  have i8 : (E != 0) = true := by simpa using hE
                  have HR2 : Hid ((⟨D, P, k, true⟩, E) = addR ⟨d, p, k, false⟩ x) := Lib.hid (by rw [← HR.out, if_pos hE])
                  clear hE HR
                  go_wp2_with fail
                  refine bodyPost_ret (v := .tuple #[.agg #[.slice A3 D.length c3, .int .i64 P, .int .i64 k, .bool true], .int .i64 E]) (by simp [results, Try.results19, go_sem, e0, e1, e2, e3, d0, d1, d2, d3]) rfl ?_
                  rw [← HR2.out]
                  refine ⟨A3, c3, rfl, own_more (base := w1.heap.size) ?_ (by omega), ?_⟩
                  · repeat' (first
                      | (with_reducible exact HOY.out)
                      | (with_reducible refine own_set ?_ ?_ _)
                      | (intro k hk e; have := HNE.out k hk; dsimp only at e; omega))
                  · have hbx := HBY.out
                    go_grown
              · go_simp
                refine hK.out _ _ ?_ (fun hS => ?_)
                · exact KEEP.out _ (by go_grown)
                clear hK K
                try simp only [Act.put, List.setIfInBounds_toArray, List.set_cons_zero, List.set_cons_succ]
                refine wpAnyH_ready (rs := [7]) (by kernel_rfl) (by simp) ?_
                refine AllReadyH.cons rfl (fun K hK => ?_) AllReadyH.nil
                go_simp
                go_at_call 34
                (with_reducible refine (KW.out _ A2 c2 (by go_grown) ((Bys.of_own ho2).to (by go_grown)) hc2 hc2').mono ?_)
                rintro e w3 ⟨A3, c3, rfl, ho3, hb3⟩
                have hbG : Below w1.heap.size w1 w3 := Below.trans (by go_grown) (hb3.mono (by first | omega | (simp; done) | (simp; omega)))
                have hsG := hbG.size
                refine hK.out _ _ ?_ (fun hS => ?_)
                · exact KEEP.out _ (by go_grown)
                clear hK K
                try simp only [Act.put, List.setIfInBounds_toArray, List.set_cons_zero, List.set_cons_succ]
                refine wpAnyH_take (i := 8) (oi := ⟨some 38, _, _, _, _, _⟩) (v := ?_) rfl (by kernel_rfl) (by kernel_rfl) (by kernel_rfl) (fun _ _ _ h => h) (Or.inl ⟨by rfl, ?_⟩) hS ?_
                rotate_left
                · (intro _ hW; obtain ⟨hW0, hW1, hW2⟩ := hW; go_simp; try (with_reducible rfl))
                try simp only [Act.put, List.setIfInBounds_toArray, List.set_cons_zero, List.set_cons_succ]
                refine wpAnyH_take (i := 9) (oi := ⟨some 47, _, _, _, _, _⟩) (v := ?_) rfl (by kernel_rfl) (by kernel_rfl) (by kernel_rfl) (fun _ _ _ h => h) (Or.inl ⟨by rfl, ?_⟩) hS ?_
                rotate_left
                · (intro _ hW; obtain ⟨hW0, hW1, hW2⟩ := hW; go_simp; try (with_reducible rfl))
                try simp only [Act.put, List.setIfInBounds_toArray, List.set_cons_zero, List.set_cons_succ]
                refine wpAnyH_take (i := 10) (oi := ⟨some 48, _, _, _, _, _⟩) (v := ?_) rfl (by kernel_rfl) (by kernel_rfl) (by kernel_rfl) (fun _ _ _ h => h) (Or.inl ⟨by rfl, ?_⟩) hS ?_
                rotate_left
                · (intro _ hW; obtain ⟨hW0, hW1, hW2⟩ := hW; go_simp; try (with_reducible rfl))
                try simp only [Act.put, List.setIfInBounds_toArray, List.set_cons_zero, List.set_cons_succ]
                obtain ⟨wX, hwX⟩ : ∃ wX, wX = w3 := ⟨_, rfl⟩
                rw [← hwX]
                have hbX : Below w1.heap.size w1 wX := by rw [hwX]; go_grown
                obtain ⟨T, hT⟩ : ∃ T, T = w2.heap.size := ⟨_, rfl⟩
                rw [← hT]
                have hTl : w1.heap.size ≤ T := by rw [hT]; first | omega | (simp; done) | (simp; omega)
                have hTr : wX.heap[T]? = some (.cells #[.slice none 0 0, .int .i64 0] 27 (0, 0)) := by rw [hwX, hT]; exact (hb3.block _ (by simp)).trans (heap_at rfl)
                have hoX : wX.ownsRow w1.heap.size 5 1 (.slice A3 D.length c3) D.length (bys D) := by rw [hwX]; exact own_more ho3 (by simp; omega)
                have HNE : Hid (∀ k, (Value.slice A3 D.length c3).ownBlock = some k → w1.heap.size ≤ k ∧ k ≠ T) := Lib.hid fun k hk => ⟨(hoX.lt k hk).1, fun e => row_ne hTr hoX (by decide) (hk.trans (congrArg some e))⟩
                have r0 := (hbX.block w.heap.size (row_lt x0.out)).trans x0.out
                have r1 := (hbX.block (w.heap.size + 1) (row_lt x1.out)).trans x1.out
                have HBX := Lib.hid (HB1.out.trans (hbX.mono HB1.out.size))
                have HOX := Lib.hid hoX
                clear hbF hbG hb2 hb3 ho2 ho3 hc2 hc2' hT hwX hS hsF hsG hoX
                have m0 : ¬ w.heap.size = T := by omega
                have m1 : ¬ w.heap.size + 1 = T := by omega
                have m2 : ¬ T = w.heap.size := by omega
                have m3 : ¬ T = w.heap.size + 1 := by omega
                have t0 := cell_of_row _ _ 0 _ _ _ hTr
                have t1 := cell_of_row _ _ 1 _ _ _ hTr
                have tf0 := frozen_of_row _ _ 0 _ _ hTr
                have tf1 := frozen_of_row _ _ 1 _ _ hTr
                have tl := row_lt hTr
                have e0 := cell_of_row _ _ 0 _ _ _ r0
                have e1 := cell_of_row _ _ 1 _ _ _ r0
                have e2 := cell_of_row _ _ 2 _ _ _ r0
                have e3 := cell_of_row _ _ 3 _ _ _ r0
                have f0 := frozen_of_row _ _ 0 _ _ r0
                have f1 := frozen_of_row _ _ 1 _ _ r0
                have f2 := frozen_of_row _ _ 2 _ _ r0
                have f3 := frozen_of_row _ _ 3 _ _ r0
                have l0 := row_lt r0
                have d0 := cell_of_row _ _ 0 _ _ _ r1
                have d1 := cell_of_row _ _ 1 _ _ _ r1
                have d2 := cell_of_row _ _ 2 _ _ _ r1
                have d3 := cell_of_row _ _ 3 _ _ _ r1
                have g0 := frozen_of_row _ _ 0 _ _ r1
                have g1 := frozen_of_row _ _ 1 _ _ r1
                have g2 := frozen_of_row _ _ 2 _ _ r1
                have g3 := frozen_of_row _ _ 3 _ _ r1
                have l1 := row_lt r1
                have R0 := Lib.hid r0
                have R1 := Lib.hid r1
                clear r0 r1 hTr
                refine wpAnyH_ready (rs := [12]) (by kernel_rfl) (by simp) ?_
                refine AllReadyH.cons rfl (fun K hK => ?_) AllReadyH.nil
                go_simp
                refine hK.out _ _ (KEEP.out _ ((hbX.setCell (by dsimp only; omega) _).setCell (by dsimp only; omega) _)) (fun hS => ?_)
                clear hK K hbX
                refine wpAnyH_take (i := 13) (oi := ⟨some 7, _, _, _, _, _⟩) (v := ?_) rfl (by kernel_rfl) (by kernel_rfl) (by kernel_rfl) (fun _ _ _ h => h) (Or.inl ⟨by rfl, ?_⟩) hS ?_
                rotate_left
                · (intro _ hW; obtain ⟨hW0, hW1, hW2⟩ := hW; go_simp; try (with_reducible rfl))
                try simp only [Act.put, List.setIfInBounds_toArray, List.set_cons_zero, List.set_cons_succ]
                refine wpAnyH_done (by kernel_rfl) ?_ _
                clear hS i4
                go_upto_region 9 with (fail)
                generalize hwY : World.setCell (World.setCell (World.setCell (World.setCell wX _ _) _ _) _ _) _ _ = wY
                have y0 : wY.heap[w.heap.size]? = some (.cells #[.slice A3 D.length c3, .int .i64 P, .int .i64 k, .bool false] 29 (0, 0)) := by
                  rw [← hwY]
                  exact set_row (set_row (far_row (far_row R0.out m0 _) m0 _) _) _
                have y1 : wY.heap[w.heap.size + 1]? = some (.cells #[.slice none 0 0, .int .i64 0, .int .i64 0, .bool false] 29 (0, 0)) := by
                  rw [← hwY]
                  exact far_row (far_row (far_row (far_row R1.out m1 _) m1 _) (by simp) _) (by simp) _
                have HOY : Hid (wY.ownsRow w1.heap.size 5 1 (.slice A3 D.length c3) D.length (bys D)) := by
                  rw [← hwY]
                  refine Lib.hid (own_set (own_set (own_set (own_set HOX.out ?_ _) ?_ _) ?_ _) ?_ _)
                  all_goals
                    intro k hk e
                    have := HNE.out k hk
                    dsimp only at e
                    omega
                have HBY : Hid (Below w.heap.size w wY) := by
                  rw [← hwY]
                  exact Lib.hid ((((HBX.out.setCell (by dsimp only; omega) _).setCell (by dsimp only; omega) _).setCell (by dsimp only; omega) _).setCell (by dsimp only; omega) _)
                clear hwY HOX HBX R0 R1 e0 e1 e2 e3 f0 f1 f2 f3 l0 d0 d1 d2 d3 g0 g1 g2 g3 l1 t0 t1 tf0 tf1 tl
                have e0 := cell_of_row _ _ 0 _ _ _ y0
                have e1 := cell_of_row _ _ 1 _ _ _ y0
                have e2 := cell_of_row _ _ 2 _ _ _ y0
                have e3 := cell_of_row _ _ 3 _ _ _ y0
                have f0 := frozen_of_row _ _ 0 _ _ y0
                have f1 := frozen_of_row _ _ 1 _ _ y0
                have f2 := frozen_of_row _ _ 2 _ _ y0
                have f3 := frozen_of_row _ _ 3 _ _ y0
                have l0 := row_lt y0
                have d0 := cell_of_row _ _ 0 _ _ _ y1
                have d1 := cell_of_row _ _ 1 _ _ _ y1
                have d2 := cell_of_row _ _ 2 _ _ _ y1
                have d3 := cell_of_row _ _ 3 _ _ _ y1
                have g0 := frozen_of_row _ _ 0 _ _ y1
                have g1 := frozen_of_row _ _ 1 _ _ y1
                have g2 := frozen_of_row _ _ 2 _ _ y1
                have g3 := frozen_of_row _ _ 3 _ _ y1
                have l1 := row_lt y1
                clear y0 y1
                by_cases hE : E = 0
                · have i7 : (E == 0) = true := by simpa using hE
                  have i8 : (E != 0) = false := by simpa using hE
                  have HR2 : Hid ((⟨D, P, k + 1, false⟩, 0) = addR ⟨d, p, k, false⟩ x) := Lib.hid (by rw [← HR.out, if_neg (by simp [hE])])
                  clear hE HR
                  go_wp2_with fail
                  refine bodyPost_ret (v := .tuple #[.agg #[.slice A3 D.length c3, .int .i64 P, .int .i64 (k + 1), .bool false], .int .i64 0]) (by simp [results, Try.results19, go_sem, e0, e1, e2, e3, d0, d1, d2, d3]) rfl ?_
                  rw [← HR2.out]
                  refine ⟨A3, c3, rfl, own_more (base := w1.heap.size) ?_ (by omega), ?_⟩
                  · repeat' (first
                      | (with_reducible exact HOY.out)
                      | (with_reducible refine own_set ?_ ?_ _)
                      | (intro k hk e; have := HNE.out k hk; dsimp only at e; omega))
                  · have hbx := HBY.out
                    go_grown
                · have i7 : (E == 0) = false := by simpa using hE
                  have i8 : (E != 0) = true := by simpa using hE
                  have HR2 : Hid ((⟨D, P, k, true⟩, E) = addR ⟨d, p, k, false⟩ x) := Lib.hid (by rw [← HR.out, if_pos hE])
                  clear hE HR
                  go_wp2_with fail
                  refine bodyPost_ret (v := .tuple #[.agg #[.slice A3 D.length c3, .int .i64 P, .int .i64 k, .bool true], .int .i64 E]) (by simp [results, Try.results19, go_sem, e0, e1, e2, e3, d0, d1, d2, d3]) rfl ?_
                  rw [← HR2.out]
                  refine ⟨A3, c3, rfl, own_more (base := w1.heap.size) ?_ (by omega), ?_⟩
                  · repeat' (first
                      | (with_reducible exact HOY.out)
                      | (with_reducible refine own_set ?_ ?_ _)
                      | (intro k hk e; have := HNE.out k hk; dsimp only at e; omega))
                  · have hbx := HBY.out
                    go_grown
            · go_simp
              refine hK.out _ _ ?_ (fun hS => ?_)
              · exact KEEP.out _ (by go_grown)
              clear hK K
              try simp only [Act.put, List.setIfInBounds_toArray, List.set_cons_zero, List.set_cons_succ]
              refine wpAnyH_ready (rs := [6]) (by kernel_rfl) (by simp) ?_
              refine AllReadyH.cons rfl (fun K hK => ?_) AllReadyH.nil
              go_simp
              go_at_call 35
              (with_reducible refine (KF.out _ (by go_grown)).mono ?_)
              rintro e w2 ⟨A2, c2, rfl, ho2, hb2⟩
              obtain ⟨hc2, hc2'⟩ := own_cap ho2
              have hbF : Below w1.heap.size w1 w2 := Below.trans (by go_grown) (hb2.mono (by first | omega | (simp; done) | (simp; omega)))
              have hsF := hbF.size
              refine hK.out _ _ ?_ (fun hS => ?_)
              · exact KEEP.out _ (by go_grown)
              clear hK K
              try simp only [Act.put, List.setIfInBounds_toArray, List.set_cons_zero, List.set_cons_succ]
              refine wpAnyH_ready (rs := [7]) (by kernel_rfl) (by simp) ?_
              refine AllReadyH.cons rfl (fun K hK => ?_) AllReadyH.nil
              go_simp
              go_at_call 34
              (with_reducible refine (KW.out _ A2 c2 (by go_grown) ((Bys.of_own ho2).to (by go_grown)) hc2 hc2').mono ?_)
              rintro e w3 ⟨A3, c3, rfl, ho3, hb3⟩
              have hbG : Below w1.heap.size w1 w3 := Below.trans (by go_grown) (hb3.mono (by first | omega | (simp; done) | (simp; omega)))
              have hsG := hbG.size
              refine hK.out _ _ ?_ (fun hS => ?_)
              · exact KEEP.out _ (by go_grown)
              clear hK K
              try simp only [Act.put, List.setIfInBounds_toArray, List.set_cons_zero, List.set_cons_succ]
              refine wpAnyH_take (i := 8) (oi := ⟨some 38, _, _, _, _, _⟩) (v := ?_) rfl (by kernel_rfl) (by kernel_rfl) (by kernel_rfl) (fun _ _ _ h => h) (Or.inl ⟨by rfl, ?_⟩) hS ?_
              rotate_left
              · (intro _ hW; obtain ⟨hW0, hW1, hW2⟩ := hW; go_simp; try (with_reducible rfl))
              try simp only [Act.put, List.setIfInBounds_toArray, List.set_cons_zero, List.set_cons_succ]
              refine wpAnyH_take (i := 9) (oi := ⟨some 47, _, _, _, _, _⟩) (v := ?_) rfl (by kernel_rfl) (by kernel_rfl) (by kernel_rfl) (fun _ _ _ h => h) (Or.inl ⟨by rfl, ?_⟩) hS ?_
              rotate_left
              · (intro _ hW; obtain ⟨hW0, hW1, hW2⟩ := hW; go_simp; try (with_reducible rfl))
              try simp only [Act.put, List.setIfInBounds_toArray, List.set_cons_zero, List.set_cons_succ]
              refine wpAnyH_take (i := 10) (oi := ⟨some 48, _, _, _, _, _⟩) (v := ?_) rfl (by kernel_rfl) (by kernel_rfl) (by kernel_rfl) (fun _ _ _ h => h) (Or.inl ⟨by rfl, ?_⟩) hS ?_
              rotate_left
              · (intro _ hW; obtain ⟨hW0, hW1, hW2⟩ := hW; go_simp; try (with_reducible rfl))
              try simp only [Act.put, List.setIfInBounds_toArray, List.set_cons_zero, List.set_cons_succ]
              obtain ⟨wX, hwX⟩ : ∃ wX, wX = w3 := ⟨_, rfl⟩
              rw [← hwX]
              have hbX : Below w1.heap.size w1 wX := by rw [hwX]; go_grown
              obtain ⟨T, hT⟩ : ∃ T, T = w1.heap.size := ⟨_, rfl⟩
              rw [← hT]
              have hTl : w1.heap.size ≤ T := by rw [hT]; first | omega | (simp; done) | (simp; omega)
              have hTr : wX.heap[T]? = some (.cells #[.slice none 0 0, .int .i64 0] 27 (0, 0)) := by rw [hwX, hT]; exact (hb3.block _ (Nat.lt_of_lt_of_le (by simp) hb2.size)).trans ((hb2.block _ (by simp)).trans (heap_at rfl))
              have hoX : wX.ownsRow w1.heap.size 5 1 (.slice A3 D.length c3) D.length (bys D) := by rw [hwX]; exact own_more ho3 hsF
              have HNE : Hid (∀ k, (Value.slice A3 D.length c3).ownBlock = some k → w1.heap.size ≤ k ∧ k ≠ T) := Lib.hid fun k hk => ⟨(hoX.lt k hk).1, fun e => row_ne hTr hoX (by decide) (hk.trans (congrArg some e))⟩
              have r0 := (hbX.block w.heap.size (row_lt x0.out)).trans x0.out
              have r1 := (hbX.block (w.heap.size + 1) (row_lt x1.out)).trans x1.out
              have HBX := Lib.hid (HB1.out.trans (hbX.mono HB1.out.size))
              have HOX := Lib.hid hoX
              clear hbF hbG hb2 hb3 ho2 ho3 hc2 hc2' hT hwX hS hsF hsG hoX
              have m0 : ¬ w.heap.size = T := by omega
              have m1 : ¬ w.heap.size + 1 = T := by omega
              have m2 : ¬ T = w.heap.size := by omega
              have m3 : ¬ T = w.heap.size + 1 := by omega
              have t0 := cell_of_row _ _ 0 _ _ _ hTr
              have t1 := cell_of_row _ _ 1 _ _ _ hTr
              have tf0 := frozen_of_row _ _ 0 _ _ hTr
              have tf1 := frozen_of_row _ _ 1 _ _ hTr
              have tl := row_lt hTr
              have e0 := cell_of_row _ _ 0 _ _ _ r0
              have e1 := cell_of_row _ _ 1 _ _ _ r0
              have e2 := cell_of_row _ _ 2 _ _ _ r0
              have e3 := cell_of_row _ _ 3 _ _ _ r0
              have f0 := frozen_of_row _ _ 0 _ _ r0
              have f1 := frozen_of_row _ _ 1 _ _ r0
              have f2 := frozen_of_row _ _ 2 _ _ r0
              have f3 := frozen_of_row _ _ 3 _ _ r0
              have l0 := row_lt r0
              have d0 := cell_of_row _ _ 0 _ _ _ r1
              have d1 := cell_of_row _ _ 1 _ _ _ r1
              have d2 := cell_of_row _ _ 2 _ _ _ r1
              have d3 := cell_of_row _ _ 3 _ _ _ r1
              have g0 := frozen_of_row _ _ 0 _ _ r1
              have g1 := frozen_of_row _ _ 1 _ _ r1
              have g2 := frozen_of_row _ _ 2 _ _ r1
              have g3 := frozen_of_row _ _ 3 _ _ r1
              have l1 := row_lt r1
              have R0 := Lib.hid r0
              have R1 := Lib.hid r1
              clear r0 r1 hTr
              refine wpAnyH_ready (rs := [12]) (by kernel_rfl) (by simp) ?_
              refine AllReadyH.cons rfl (fun K hK => ?_) AllReadyH.nil
              go_simp
              refine hK.out _ _ (KEEP.out _ ((hbX.setCell (by dsimp only; omega) _).setCell (by dsimp only; omega) _)) (fun hS => ?_)
              clear hK K hbX
              refine wpAnyH_take (i := 13) (oi := ⟨some 7, _, _, _, _, _⟩) (v := ?_) rfl (by kernel_rfl) (by kernel_rfl) (by kernel_rfl) (fun _ _ _ h => h) (Or.inl ⟨by rfl, ?_⟩) hS ?_
              rotate_left
              · (intro _ hW; obtain ⟨hW0, hW1, hW2⟩ := hW; go_simp; try (with_reducible rfl))
              try simp only [Act.put, List.setIfInBounds_toArray, List.set_cons_zero, List.set_cons_succ]
              refine wpAnyH_done (by kernel_rfl) ?_ _
              clear hS i4
              go_upto_region 9 with (fail)
              generalize hwY : World.setCell (World.setCell (World.setCell (World.setCell wX _ _) _ _) _ _) _ _ = wY
              have y0 : wY.heap[w.heap.size]? = some (.cells #[.slice A3 D.length c3, .int .i64 P, .int .i64 k, .bool false] 29 (0, 0)) := by
                rw [← hwY]
                exact set_row (set_row (far_row (far_row R0.out m0 _) m0 _) _) _
              have y1 : wY.heap[w.heap.size + 1]? = some (.cells #[.slice none 0 0, .int .i64 0, .int .i64 0, .bool false] 29 (0, 0)) := by
                rw [← hwY]
                exact far_row (far_row (far_row (far_row R1.out m1 _) m1 _) (by simp) _) (by simp) _
              have HOY : Hid (wY.ownsRow w1.heap.size 5 1 (.slice A3 D.length c3) D.length (bys D)) := by
                rw [← hwY]
                refine Lib.hid (own_set (own_set (own_set (own_set HOX.out ?_ _) ?_ _) ?_ _) ?_ _)
                all_goals
                  intro k hk e
                  have := HNE.out k hk
                  dsimp only at e
                  omega
              have HBY : Hid (Below w.heap.size w wY) := by
                rw [← hwY]
                exact Lib.hid ((((HBX.out.setCell (by dsimp only; omega) _).setCell (by dsimp only; omega) _).setCell (by dsimp only; omega) _).setCell (by dsimp only; omega) _)
              clear hwY HOX HBX R0 R1 e0 e1 e2 e3 f0 f1 f2 f3 l0 d0 d1 d2 d3 g0 g1 g2 g3 l1 t0 t1 tf0 tf1 tl
              have e0 := cell_of_row _ _ 0 _ _ _ y0
              have e1 := cell_of_row _ _ 1 _ _ _ y0
              have e2 := cell_of_row _ _ 2 _ _ _ y0
              have e3 := cell_of_row _ _ 3 _ _ _ y0
              have f0 := frozen_of_row _ _ 0 _ _ y0
              have f1 := frozen_of_row _ _ 1 _ _ y0
              have f2 := frozen_of_row _ _ 2 _ _ y0
              have f3 := frozen_of_row _ _ 3 _ _ y0
              have l0 := row_lt y0
              have d0 := cell_of_row _ _ 0 _ _ _ y1
              have d1 := cell_of_row _ _ 1 _ _ _ y1
              have d2 := cell_of_row _ _ 2 _ _ _ y1
              have d3 := cell_of_row _ _ 3 _ _ _ y1
              have g0 := frozen_of_row _ _ 0 _ _ y1
              have g1 := frozen_of_row _ _ 1 _ _ y1
              have g2 := frozen_of_row _ _ 2 _ _ y1
              have g3 := frozen_of_row _ _ 3 _ _ y1
              have l1 := row_lt y1
              clear y0 y1
              by_cases hE : E = 0
              · have i7 : (E == 0) = true := by simpa using hE
                have i8 : (E != 0) = false := by simpa using hE
                have HR2 : Hid ((⟨D, P, k + 1, false⟩, 0) = addR ⟨d, p, k, false⟩ x) := Lib.hid (by rw [← HR.out, if_neg (by simp [hE])])
                clear hE HR
                go_wp2_with fail
                refine bodyPost_ret (v := .tuple #[.agg #[.slice A3 D.length c3, .int .i64 P, .int .i64 (k + 1), .bool false], .int .i64 0]) (by simp [results, Try.results19, go_sem, e0, e1, e2, e3, d0, d1, d2, d3]) rfl ?_
                rw [← HR2.out]
                refine ⟨A3, c3, rfl, own_more (base := w1.heap.size) ?_ (by omega), ?_⟩
                · repeat' (first
                    | (with_reducible exact HOY.out)
                    | (with_reducible refine own_set ?_ ?_ _)
                    | (intro k hk e; have := HNE.out k hk; dsimp only at e; omega))
                · have hbx := HBY.out
                  go_grown
              · have i7 : (E == 0) = false := by simpa using hE
                have i8 : (E != 0) = true := by simpa using hE
                have HR2 : Hid ((⟨D, P, k, true⟩, E) = addR ⟨d, p, k, false⟩ x) := Lib.hid (by rw [← HR.out, if_pos hE])
                clear hE HR
                go_wp2_with fail
                refine bodyPost_ret (v := .tuple #[.agg #[.slice A3 D.length c3, .int .i64 P, .int .i64 k, .bool true], .int .i64 E]) (by simp [results, Try.results19, go_sem, e0, e1, e2, e3, d0, d1, d2, d3]) rfl ?_
                rw [← HR2.out]
                refine ⟨A3, c3, rfl, own_more (base := w1.heap.size) ?_ (by omega), ?_⟩
                · repeat' (first
                    | (with_reducible exact HOY.out)
                    | (with_reducible refine own_set ?_ ?_ _)
                    | (intro k hk e; have := HNE.out k hk; dsimp only at e; omega))
                · have hbx := HBY.out
                  go_grown
end Go.Proofs.Ytbkicepkkcambaa
