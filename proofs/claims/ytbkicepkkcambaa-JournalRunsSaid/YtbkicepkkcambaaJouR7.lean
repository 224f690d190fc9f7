/- The reference: Add. -/
import Derived.Test.YtbkicepkkcambaaJouR6
namespace Go.Proofs.Ytbkicepkkcambaa
open Go.RowKit BigFrame Go.Shelf
set_option linter.unusedVariables false
set_option linter.unusedSimpArgs false

/-- A log is handed back. -/
theorem end_lg {w wY : World} {b : Nat} {cs : Array Value} {r : Lg × Int} {A : Option Addr} {c : Nat} (h : wY.ownsRow w.heap.size 5 1 (.slice A r.1.data.length c) r.1.data.length (bys r.1.data))
    (hB : Below w.heap.size w wY) (hr : wY.heap[b]? = some (.cells cs 32 (0, 0))) (hb : w.heap.size ≤ b) (u0 u1 u2 u3 : Value) :
    GivesLg w r (.returned (.tuple #[.agg #[.slice A r.1.data.length c, .int .i64 r.1.power, .int .i64 r.1.count, .bool r.1.down], .int .i64 r.2])) ((((wY.setCell ⟨b, 0, none⟩ u0).setCell ⟨b, 1, none⟩ u1).setCell ⟨b, 2, none⟩ u2).setCell ⟨b, 3, none⟩ u3) := by
  have hne : ∀ k, (Value.slice A r.1.data.length c).ownBlock = some k → k ≠ b := fun k hk e' => row_ne hr h (by decide) (hk.trans (congrArg some e'))
  exact ⟨A, c, rfl, own_set (own_set (own_set (own_set h hne _) hne _) hne _) hne _, (((hB.setCell hb _).setCell hb _).setCell hb _).setCell hb _⟩
set_option maxRecDepth 100000 in
set_option maxHeartbeats 4000000 in
theorem refadd_any (A A1 : Option Addr) (n c n1 c1 : Nat) (p k : Int) (down : Bool) (d x : Bytes) (w : World) (h : Bys w w.heap.size A n d) (hx : Bys w w.heap.size A1 n1 x) (hn : n ≤ 10000000000) (hnc : n ≤ c) (hc63 : c ≤ 9223372036854775807) (hn1 : n1 ≤ 10000000000) (hp : p ≤ 9223372036854775807) :
    Calls Try.prog 20 #[.agg #[.slice A n c, .int .i64 p, .int .i64 k, .bool down], .slice A1 n1 c1] w (GivesLg w (addR ⟨d, p, k, down⟩ x)) := by
  have hxl := h.len
  have hx1 := hx.len
  cases hv : rightB ⟨d, p, k, down⟩ with
  | false =>
    have HR := Lib.hid (show (Lg.zero, (2 : Int)) = addR ⟨d, p, k, down⟩ x by unfold addR; rw [if_pos (.inl hv)])
    clear hxl hx1
    have HV := Lib.hid hv
    have HH := Lib.hid h
    clear hv h
    go_enter Try.func20, Try.ntmps20
    go_wp2_with fail
    refine (refright_any A n c p _ down d _ (HH.out.to (by go_grown)) (by omega) hnc (by omega)).mono ?_
    rintro e w1 ⟨rfl, hb1⟩
    rw [HV.out]
    have r0 := (hb1.block w.heap.size (by first | omega | (simp; done) | (simp; omega))).trans (show _ = some (Obj.cells #[.slice A n c, .int .i64 p, .int .i64 k, .bool down] 32 (0, 0)) from (by (try rw [get_drew]); simp only [get_alloc, get_set, World.size_alloc, World.size_setCell]; simp [Nat.add_assoc]))
    have r1 := (hb1.block (w.heap.size + 1) (by first | omega | (simp; done) | (simp; omega))).trans (show _ = some (Obj.cells #[.slice none 0 0, .int .i64 0, .int .i64 0, .bool false] 32 (0, 0)) from (by (try rw [get_drew]); simp only [get_alloc, get_set, World.size_alloc, World.size_setCell]; simp [Nat.add_assoc]))
    have HB1 := Lib.hid (Below.trans (by go_grown) (hb1.mono (by first | omega | (simp; done) | (simp; omega))) : Below w.heap.size w w1)
    have e0 := cell_of_row _ _ 0 _ _ _ r0
    have e1 := cell_of_row _ _ 1 _ _ _ r0
    have e2 := cell_of_row _ _ 2 _ _ _ r0
    have e3 := cell_of_row _ _ 3 _ _ _ r0
    have d0 := cell_of_row _ _ 0 _ _ _ r1
    have d1 := cell_of_row _ _ 1 _ _ _ r1
    have d2 := cell_of_row _ _ 2 _ _ _ r1
    have d3 := cell_of_row _ _ 3 _ _ _ r1
    have g0 := frozen_of_row _ _ 0 _ _ r1
    have g1 := frozen_of_row _ _ 1 _ _ r1
    have g2 := frozen_of_row _ _ 2 _ _ r1
    have g3 := frozen_of_row _ _ 3 _ _ r1
    have l1 := row_lt r1
    have R0 := Lib.hid r0
    have R1 := Lib.hid r1
    clear r0 r1 hb1
    go_wp2_with fail
    refine bodyPost_ret (v := .tuple #[.agg #[.slice none 0 0, .int .i64 0, .int .i64 0, .bool false], .int .i64 2]) (by simp [results, Try.results20, go_sem, d0, d1, d2, d3]) rfl ?_
    exact HR.out ▸ end_lg (r := (Lg.zero, 2)) (World.ownsRow_nil _ _ _ _) HB1.out R1.out (by omega) _ _ _ _
  | true =>
    by_cases h1 : 4096 < n1
    · have i1 : (4096 : Int) < n1 := by omega
      have HR := Lib.hid (show (Lg.zero, (2 : Int)) = addR ⟨d, p, k, down⟩ x by unfold addR; rw [if_pos (.inr (by omega))])
      clear hxl hx1
      have HV := Lib.hid hv
      have HH := Lib.hid h
      clear hv h
      go_enter Try.func20, Try.ntmps20
      go_wp2_with fail
      refine (refright_any A n c p _ down d _ (HH.out.to (by go_grown)) (by omega) hnc (by omega)).mono ?_
      rintro e w1 ⟨rfl, hb1⟩
      rw [HV.out]
      have r0 := (hb1.block w.heap.size (by first | omega | (simp; done) | (simp; omega))).trans (show _ = some (Obj.cells #[.slice A n c, .int .i64 p, .int .i64 k, .bool down] 32 (0, 0)) from (by (try rw [get_drew]); simp only [get_alloc, get_set, World.size_alloc, World.size_setCell]; simp [Nat.add_assoc]))
      have r1 := (hb1.block (w.heap.size + 1) (by first | omega | (simp; done) | (simp; omega))).trans (show _ = some (Obj.cells #[.slice none 0 0, .int .i64 0, .int .i64 0, .bool false] 32 (0, 0)) from (by (try rw [get_drew]); simp only [get_alloc, get_set, World.size_alloc, World.size_setCell]; simp [Nat.add_assoc]))
      have HB1 := Lib.hid (Below.trans (by go_grown) (hb1.mono (by first | omega | (simp; done) | (simp; omega))) : Below w.heap.size w w1)
      have e0 := cell_of_row _ _ 0 _ _ _ r0
      have e1 := cell_of_row _ _ 1 _ _ _ r0
      have e2 := cell_of_row _ _ 2 _ _ _ r0
      have e3 := cell_of_row _ _ 3 _ _ _ r0
      have d0 := cell_of_row _ _ 0 _ _ _ r1
      have d1 := cell_of_row _ _ 1 _ _ _ r1
      have d2 := cell_of_row _ _ 2 _ _ _ r1
      have d3 := cell_of_row _ _ 3 _ _ _ r1
      have g0 := frozen_of_row _ _ 0 _ _ r1
      have g1 := frozen_of_row _ _ 1 _ _ r1
      have g2 := frozen_of_row _ _ 2 _ _ r1
      have g3 := frozen_of_row _ _ 3 _ _ r1
      have l1 := row_lt r1
      have R0 := Lib.hid r0
      have R1 := Lib.hid r1
      clear r0 r1 hb1
      go_wp2_with fail
      refine bodyPost_ret (v := .tuple #[.agg #[.slice none 0 0, .int .i64 0, .int .i64 0, .bool false], .int .i64 2]) (by simp [results, Try.results20, go_sem, d0, d1, d2, d3]) rfl ?_
      exact HR.out ▸ end_lg (r := (Lg.zero, 2)) (World.ownsRow_nil _ _ _ _) HB1.out R1.out (by omega) _ _ _ _
    · have i1 : (n1 : Int) ≤ 4096 := by omega
      cases down with
      | true =>
        have HR := Lib.hid (show (Lg.zero, (371 : Int)) = addR ⟨d, p, k, true⟩ x by unfold addR; rw [if_neg (by simp [hv]; omega), if_pos rfl])
        clear hxl hx1
        have HV := Lib.hid hv
        have HH := Lib.hid h
        clear hv h
        go_enter Try.func20, Try.ntmps20
        go_wp2_with fail
        refine (refright_any A n c p _ true d _ (HH.out.to (by go_grown)) (by omega) hnc (by omega)).mono ?_
        rintro e w1 ⟨rfl, hb1⟩
        rw [HV.out]
        have r0 := (hb1.block w.heap.size (by first | omega | (simp; done) | (simp; omega))).trans (show _ = some (Obj.cells #[.slice A n c, .int .i64 p, .int .i64 k, .bool true] 32 (0, 0)) from (by (try rw [get_drew]); simp only [get_alloc, get_set, World.size_alloc, World.size_setCell]; simp [Nat.add_assoc]))
        have r1 := (hb1.block (w.heap.size + 1) (by first | omega | (simp; done) | (simp; omega))).trans (show _ = some (Obj.cells #[.slice none 0 0, .int .i64 0, .int .i64 0, .bool false] 32 (0, 0)) from (by (try rw [get_drew]); simp only [get_alloc, get_set, World.size_alloc, World.size_setCell]; simp [Nat.add_assoc]))
        have HB1 := Lib.hid (Below.trans (by go_grown) (hb1.mono (by first | omega | (simp; done) | (simp; omega))) : Below w.heap.size w w1)
        have e0 := cell_of_row _ _ 0 _ _ _ r0
        have e1 := cell_of_row _ _ 1 _ _ _ r0
        have e2 := cell_of_row _ _ 2 _ _ _ r0
        have e3 := cell_of_row _ _ 3 _ _ _ r0
        have d0 := cell_of_row _ _ 0 _ _ _ r1
        have d1 := cell_of_row _ _ 1 _ _ _ r1
        have d2 := cell_of_row _ _ 2 _ _ _ r1
        have d3 := cell_of_row _ _ 3 _ _ _ r1
        have g0 := frozen_of_row _ _ 0 _ _ r1
        have g1 := frozen_of_row _ _ 1 _ _ r1
        have g2 := frozen_of_row _ _ 2 _ _ r1
        have g3 := frozen_of_row _ _ 3 _ _ r1
        have l1 := row_lt r1
        have R0 := Lib.hid r0
        have R1 := Lib.hid r1
        clear r0 r1 hb1
        go_wp2_with fail
        refine bodyPost_ret (v := .tuple #[.agg #[.slice none 0 0, .int .i64 0, .int .i64 0, .bool false], .int .i64 371]) (by simp [results, Try.results20, go_sem, d0, d1, d2, d3]) rfl ?_
        exact HR.out ▸ end_lg (r := (Lg.zero, 371)) (World.ownsRow_nil _ _ _ _) HB1.out R1.out (by omega) _ _ _ _
      | false =>
        by_cases h2 : k = 65536
        · have i2 : (k == 65536) = true := by simpa using h2
          have HR := Lib.hid (show (Lg.zero, (4 : Int)) = addR ⟨d, p, k, false⟩ x by unfold addR; rw [if_neg (by simp [hv]; omega), if_neg (by simp), if_pos (.inl h2)])
          clear hxl hx1 h2
          have HV := Lib.hid hv
          have HH := Lib.hid h
          clear hv h
          go_enter Try.func20, Try.ntmps20
          go_wp2_with fail
          refine (refright_any A n c p _ false d _ (HH.out.to (by go_grown)) (by omega) hnc (by omega)).mono ?_
          rintro e w1 ⟨rfl, hb1⟩
          rw [HV.out]
          have r0 := (hb1.block w.heap.size (by first | omega | (simp; done) | (simp; omega))).trans (show _ = some (Obj.cells #[.slice A n c, .int .i64 p, .int .i64 k, .bool false] 32 (0, 0)) from (by (try rw [get_drew]); simp only [get_alloc, get_set, World.size_alloc, World.size_setCell]; simp [Nat.add_assoc]))
          have r1 := (hb1.block (w.heap.size + 1) (by first | omega | (simp; done) | (simp; omega))).trans (show _ = some (Obj.cells #[.slice none 0 0, .int .i64 0, .int .i64 0, .bool false] 32 (0, 0)) from (by (try rw [get_drew]); simp only [get_alloc, get_set, World.size_alloc, World.size_setCell]; simp [Nat.add_assoc]))
          have HB1 := Lib.hid (Below.trans (by go_grown) (hb1.mono (by first | omega | (simp; done) | (simp; omega))) : Below w.heap.size w w1)
          have e0 := cell_of_row _ _ 0 _ _ _ r0
          have e1 := cell_of_row _ _ 1 _ _ _ r0
          have e2 := cell_of_row _ _ 2 _ _ _ r0
          have e3 := cell_of_row _ _ 3 _ _ _ r0
          have d0 := cell_of_row _ _ 0 _ _ _ r1
          have d1 := cell_of_row _ _ 1 _ _ _ r1
          have d2 := cell_of_row _ _ 2 _ _ _ r1
          have d3 := cell_of_row _ _ 3 _ _ _ r1
          have g0 := frozen_of_row _ _ 0 _ _ r1
          have g1 := frozen_of_row _ _ 1 _ _ r1
          have g2 := frozen_of_row _ _ 2 _ _ r1
          have g3 := frozen_of_row _ _ 3 _ _ r1
          have l1 := row_lt r1
          have R0 := Lib.hid r0
          have R1 := Lib.hid r1
          clear r0 r1 hb1
          go_wp2_with fail
          refine bodyPost_ret (v := .tuple #[.agg #[.slice none 0 0, .int .i64 0, .int .i64 0, .bool false], .int .i64 4]) (by simp [results, Try.results20, go_sem, d0, d1, d2, d3]) rfl ?_
          exact HR.out ▸ end_lg (r := (Lg.zero, 4)) (World.ownsRow_nil _ _ _ _) HB1.out R1.out (by omega) _ _ _ _
        · have i2 : (k == 65536) = false := by simpa using h2
          by_cases h3 : 1048576 < n + n1 + 10
          · have i3 : (1048576 : Int) < (n : Int) + n1 + 10 := by omega
            have HR := Lib.hid (show (Lg.zero, (4 : Int)) = addR ⟨d, p, k, false⟩ x by unfold addR; rw [if_neg (by simp [hv]; omega), if_neg (by simp), if_pos (.inr (by dsimp only; omega))])
            clear hxl hx1 h2
            have HV := Lib.hid hv
            have HH := Lib.hid h
            clear hv h
            go_enter Try.func20, Try.ntmps20
            go_wp2_with fail
            refine (refright_any A n c p _ false d _ (HH.out.to (by go_grown)) (by omega) hnc (by omega)).mono ?_
            rintro e w1 ⟨rfl, hb1⟩
            rw [HV.out]
            have r0 := (hb1.block w.heap.size (by first | omega | (simp; done) | (simp; omega))).trans (show _ = some (Obj.cells #[.slice A n c, .int .i64 p, .int .i64 k, .bool false] 32 (0, 0)) from (by (try rw [get_drew]); simp only [get_alloc, get_set, World.size_alloc, World.size_setCell]; simp [Nat.add_assoc]))
            have r1 := (hb1.block (w.heap.size + 1) (by first | omega | (simp; done) | (simp; omega))).trans (show _ = some (Obj.cells #[.slice none 0 0, .int .i64 0, .int .i64 0, .bool false] 32 (0, 0)) from (by (try rw [get_drew]); simp only [get_alloc, get_set, World.size_alloc, World.size_setCell]; simp [Nat.add_assoc]))
            have HB1 := Lib.hid (Below.trans (by go_grown) (hb1.mono (by first | omega | (simp; done) | (simp; omega))) : Below w.heap.size w w1)
            have e0 := cell_of_row _ _ 0 _ _ _ r0
            have e1 := cell_of_row _ _ 1 _ _ _ r0
            have e2 := cell_of_row _ _ 2 _ _ _ r0
            have e3 := cell_of_row _ _ 3 _ _ _ r0
            have d0 := cell_of_row _ _ 0 _ _ _ r1
            have d1 := cell_of_row _ _ 1 _ _ _ r1
            have d2 := cell_of_row _ _ 2 _ _ _ r1
            have d3 := cell_of_row _ _ 3 _ _ _ r1
            have g0 := frozen_of_row _ _ 0 _ _ r1
            have g1 := frozen_of_row _ _ 1 _ _ r1
            have g2 := frozen_of_row _ _ 2 _ _ r1
            have g3 := frozen_of_row _ _ 3 _ _ r1
            have l1 := row_lt r1
            have R0 := Lib.hid r0
            have R1 := Lib.hid r1
            clear r0 r1 hb1
            go_wp2_with fail
            refine bodyPost_ret (v := .tuple #[.agg #[.slice none 0 0, .int .i64 0, .int .i64 0, .bool false], .int .i64 4]) (by simp [results, Try.results20, go_sem, d0, d1, d2, d3]) rfl ?_
            exact HR.out ▸ end_lg (r := (Lg.zero, 4)) (World.ownsRow_nil _ _ _ _) HB1.out R1.out (by omega) _ _ _ _
          · have i3 : decide ((1048576 : Int) < (n : Int) + n1 + 10) = false := by rw [decide_eq_false_iff_not]; omega
            obtain ⟨q, hkq, hq⟩ : ∃ q : Nat, k = q ∧ q ≤ 65536 := by
              have := scan_short d
              unfold rightB at hv
              simp only [Bool.and_eq_true, decide_eq_true_eq] at hv
              exact ⟨(scan d).length, hv.1.2.symm, this⟩
            have hp0 : -1 ≤ p := by
              unfold rightB stoOk Lg.sto at hv
              simp only [Bool.and_eq_true, decide_eq_true_eq] at hv
              exact hv.1.1.2
            obtain ⟨y, hy⟩ : ∃ y, formed (q + 1) x = y := ⟨_, rfl⟩
            obtain ⟨D, P, E, hr⟩ : ∃ (D : Bytes) (P E : Int), (wrote ⟨d, p⟩ y, wroteE ⟨d, p⟩ y) = ((⟨D, P⟩ : Sto), E) := ⟨_, _, _, rfl⟩
            have hr1 : wrote ⟨d, p⟩ y = ⟨D, P⟩ := congrArg Prod.fst hr
            have hr2 : wroteE ⟨d, p⟩ y = E := congrArg Prod.snd hr
            have HR := Lib.hid (show (if E ≠ 0 then (⟨D, P, k, true⟩, E) else (⟨D, P, k + 1, false⟩, 0) : Lg × Int) = addR ⟨d, p, k, false⟩ x by
              rw [addR_go hv (by omega) h2 (by omega), show k.toNat = q by omega, hy, hr1, hr2])
            have HX := Lib.hid hx
            have ek : ((q + 1 : Nat) : Int) = k + 1 := by omega
            have hfo : formR (k + 1) x = (y, 0) := by unfold formR; rw [if_neg (by omega), show (k + 1).toNat = q + 1 by omega, hy]
            have KF := Lib.hid (fun W (hW : Below w.heap.size w W) => refform_any A1 n1 c1 (k + 1) x W (HX.out.to hW) (by omega))
            rw [hfo] at KF
            have hyl : y.length = n1 + 10 := by rw [← hy, formed_length, hx1]
            have HYL := Lib.hid hyl
            have KW : Hid (∀ (W : World) (A2 : Option Addr) (c2 : Nat), Below w.heap.size w W → Bys W W.heap.size A2 y.length y →
                Calls Try.prog 37 #[.agg #[.slice A n c, .int .i64 p], .slice A2 y.length c2] W fun e w' => ∃ A3 c3, e = .returned (.tuple #[.agg #[.slice A3 D.length c3, .int .i64 P], .int .i64 E]) ∧ w'.ownsRow W.heap.size 5 1 (.slice A3 D.length c3) D.length (bys D) ∧ Below W.heap.size W w') :=
              Lib.hid fun W A2 c2 hA hY => by
                have := refwrite_any A A2 n c y.length c2 p d y W (h.to hA) hY (by omega) (by omega) hp hp0
                rw [hr] at this
                exact this
            have i5 : 0 ≤ k := by omega
            have i6 : k ≤ 65535 := by omega
            clear h3
            clear hxl hx1 h2 hy hr hr1 hr2 hx ek hkq hq hfo hyl
            have HV := Lib.hid hv
            have HH := Lib.hid h
            clear hv h
            go_enter Try.func20, Try.ntmps20
            go_wp2_with fail
            refine (refright_any A n c p _ false d _ (HH.out.to (by go_grown)) (by omega) hnc (by omega)).mono ?_
            rintro e w1 ⟨rfl, hb1⟩
            rw [HV.out]
            have r0 := (hb1.block w.heap.size (by first | omega | (simp; done) | (simp; omega))).trans (show _ = some (Obj.cells #[.slice A n c, .int .i64 p, .int .i64 k, .bool false] 32 (0, 0)) from (by (try rw [get_drew]); simp only [get_alloc, get_set, World.size_alloc, World.size_setCell]; simp [Nat.add_assoc]))
            have r1 := (hb1.block (w.heap.size + 1) (by first | omega | (simp; done) | (simp; omega))).trans (show _ = some (Obj.cells #[.slice none 0 0, .int .i64 0, .int .i64 0, .bool false] 32 (0, 0)) from (by (try rw [get_drew]); simp only [get_alloc, get_set, World.size_alloc, World.size_setCell]; simp [Nat.add_assoc]))
            have HB1 := Lib.hid (Below.trans (by go_grown) (hb1.mono (by first | omega | (simp; done) | (simp; omega))) : Below w.heap.size w w1)
            have e0 := cell_of_row _ _ 0 _ _ _ r0
            have e1 := cell_of_row _ _ 1 _ _ _ r0
            have e2 := cell_of_row _ _ 2 _ _ _ r0
            have e3 := cell_of_row _ _ 3 _ _ _ r0
            have d0 := cell_of_row _ _ 0 _ _ _ r1
            have d1 := cell_of_row _ _ 1 _ _ _ r1
            have d2 := cell_of_row _ _ 2 _ _ _ r1
            have d3 := cell_of_row _ _ 3 _ _ _ r1
            have g0 := frozen_of_row _ _ 0 _ _ r1
            have g1 := frozen_of_row _ _ 1 _ _ r1
            have g2 := frozen_of_row _ _ 2 _ _ r1
            have g3 := frozen_of_row _ _ 3 _ _ r1
            have l1 := row_lt r1
            have R0 := Lib.hid r0
            have R1 := Lib.hid r1
            clear r0 r1 hb1
            go_wp2_with fail
            (with_reducible refine (KF.out _ HB1.out).mono ?_)
            rintro e w2 ⟨A2, c2, rfl, ho2, hb2⟩
            dsimp only at ho2 ⊢
            have r0 := (hb2.block w.heap.size (row_lt R0.out)).trans R0.out
            have r1 := (hb2.block (w.heap.size + 1) (row_lt R1.out)).trans R1.out
            have HB2 := Lib.hid (HB1.out.trans (hb2.mono HB1.out.size) : Below w.heap.size w w2)
            have HY2 := Lib.hid (Bys.of_own ho2)
            clear e0 e1 e2 e3 d0 d1 d2 d3 g0 g1 g2 g3 l1
            have e0 := cell_of_row _ _ 0 _ _ _ r0
            have e1 := cell_of_row _ _ 1 _ _ _ r0
            have e2 := cell_of_row _ _ 2 _ _ _ r0
            have e3 := cell_of_row _ _ 3 _ _ _ r0
            replace R0 := Lib.hid r0
            replace R1 := Lib.hid r1
            clear r0 r1 hb2 ho2
            have KW1 := Lib.hid (KW.out w2 A2 c2 HB2.out HY2.out)
            go_wp2_with fail
            (with_reducible refine KW1.out.mono ?_)
            rintro e w3 ⟨A3, c3, rfl, ho3, hb3⟩
            have r0 := (hb3.block w.heap.size (row_lt R0.out)).trans R0.out
            have r1 := (hb3.block (w.heap.size + 1) (row_lt R1.out)).trans R1.out
            have HB3 := Lib.hid (HB2.out.trans (hb3.mono HB2.out.size) : Below w.heap.size w w3)
            have HO3 := Lib.hid (own_more ho3 HB2.out.size)
            replace R0 := Lib.hid r0
            replace R1 := Lib.hid r1
            have hs3 := HB3.out.size
            have ls0 := row_lt r0
            have ls1 := row_lt r1
            clear r0 r1 hb3 ho3 e0 e1 e2 e3 KW1
            go_upto_region 9 with (fail)
            generalize hwY : World.alloc w3 _ = wY
            have yT : wY.heap[w3.heap.size]? = some (.cells #[.slice A3 D.length c3, .int .i64 P] 30 (0, 0)) := by rw [← hwY]; exact heap_at rfl
            have y0 : wY.heap[w.heap.size]? = some (Obj.cells #[.slice A n c, .int .i64 p, .int .i64 k, .bool false] 32 (0, 0)) := by rw [← hwY]; exact (Below.heap_alloc _ _ _ ls0).trans R0.out
            have y1 : wY.heap[w.heap.size + 1]? = some (Obj.cells #[.slice none 0 0, .int .i64 0, .int .i64 0, .bool false] 32 (0, 0)) := by rw [← hwY]; exact (Below.heap_alloc _ _ _ ls1).trans R1.out
            have HBY : Hid (Below w.heap.size w wY) := Lib.hid (by rw [← hwY]; exact HB3.out.alloc hs3 _)
            have HOY : Hid (wY.ownsRow w.heap.size 5 1 (.slice A3 D.length c3) D.length (bys D)) := Lib.hid (by rw [← hwY]; exact HO3.out.alloc _)
            have t0 := cell_of_row _ _ 0 _ _ _ yT
            have t1 := cell_of_row _ _ 1 _ _ _ yT
            have e0 := cell_of_row _ _ 0 _ _ _ y0
            have e1 := cell_of_row _ _ 1 _ _ _ y0
            have e2 := cell_of_row _ _ 2 _ _ _ y0
            have e3 := cell_of_row _ _ 3 _ _ _ y0
            have d0 := cell_of_row _ _ 0 _ _ _ y1
            have d1 := cell_of_row _ _ 1 _ _ _ y1
            have d2 := cell_of_row _ _ 2 _ _ _ y1
            have d3 := cell_of_row _ _ 3 _ _ _ y1
            have g0 := frozen_of_row _ _ 0 _ _ y1
            have g1 := frozen_of_row _ _ 1 _ _ y1
            have g2 := frozen_of_row _ _ 2 _ _ y1
            have g3 := frozen_of_row _ _ 3 _ _ y1
            have l1 := row_lt y1
            have Y1 := Lib.hid y1
            clear hwY yT y0 y1 HO3 R0 R1
            by_cases hE : E = 0
            · have i7 : (E == 0) = true := by simpa using hE
              have i8 : (E != 0) = false := by simpa using hE
              have HR2 : Hid ((⟨D, P, k + 1, false⟩, 0) = addR ⟨d, p, k, false⟩ x) := Lib.hid (by rw [← HR.out, if_neg (by simp [hE])])
              clear hE HR
              go_wp2_with fail
              refine bodyPost_ret (v := .tuple #[.agg #[.slice A3 D.length c3, .int .i64 P, .int .i64 (k + 1), .bool false], .int .i64 0]) (by simp [results, Try.results20, go_sem, d0, d1, d2, d3]) rfl ?_
              exact HR2.out ▸ end_lg (r := (⟨D, P, k + 1, false⟩, 0)) HOY.out HBY.out Y1.out (by omega) _ _ _ _
            · have i7 : (E == 0) = false := by simpa using hE
              have i8 : (E != 0) = true := by simpa using hE
              have HR2 : Hid ((⟨D, P, k, true⟩, E) = addR ⟨d, p, k, false⟩ x) := Lib.hid (by rw [← HR.out, if_pos hE])
              clear hE HR
              go_wp2_with fail
              refine bodyPost_ret (v := .tuple #[.agg #[.slice A3 D.length c3, .int .i64 P, .int .i64 k, .bool true], .int .i64 E]) (by simp [results, Try.results20, go_sem, d0, d1, d2, d3]) rfl ?_
              exact HR2.out ▸ end_lg (r := (⟨D, P, k, true⟩, E)) HOY.out HBY.out Y1.out (by omega) _ _ _ _
end Go.Proofs.Ytbkicepkkcambaa
