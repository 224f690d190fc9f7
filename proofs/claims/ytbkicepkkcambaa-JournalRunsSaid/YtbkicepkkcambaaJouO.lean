/- awake: the chapter's examples. -/
import Derived.Test.YtbkicepkkcambaaJouN
import Derived.Deep.Cut
namespace Go.Proofs.Ytbkicepkkcambaa
open Go.RowKit BigFrame Go.Shelf
set_option linter.unusedVariables false
set_option linter.unusedSimpArgs false

def F1 : Bytes := [1, 0, 0, 0, 2, 0, 65, 66, 226, 3, 0, 0]
def D20 : Bytes := [1, 0, 0, 0, 2, 0, 65, 66, 226, 3, 0, 0, 2, 0, 0, 0, 1, 0, 67, 220]
theorem ex1 : formR 1 [65, 66] = (F1, 0) := by kernel_rfl
theorem ex2 : openR ⟨[], 20⟩ = (⟨[], 20, 0, false⟩, [], 0) := by kernel_rfl
theorem ex3 : addR ⟨[], 20, 0, false⟩ [65, 66] = (⟨F1, 8, 1, false⟩, 0) := by kernel_rfl
theorem ex4 : addR ⟨F1, 8, 1, false⟩ [67] = (⟨D20, 0, 1, true⟩, 370) := by kernel_rfl
theorem ex5 : restoreR ⟨D20, 0, 1, true⟩ 1 = (⟨D20, 1⟩, 0) := by kernel_rfl
theorem ex6 : openR ⟨D20, 1⟩ = (⟨F1, 0, 1, false⟩, [[65, 66]], 0) := by kernel_rfl

theorem bys_at {w : World} {b n : Nat} {l : Bytes} {cs : Array Value} {t : TypeId} {fr : Nat × Nat} (h : w.heap[b]? = some (.cells cs t fr)) (hl : cs.toList = bys l) (hn : l.length = n) : Bys w w.heap.size (some ⟨b, 0, none⟩) n l :=
  ⟨hn, reads_block (row_lt h) h hl (by rw [bys_length, hn, Nat.mul_one])⟩

theorem aw1 (b : Nat) (W : World) (hb : W.heap[b]? = some (.cells #[.int .u8 65, .int .u8 66] 5 (0, 0))) :
    Calls Try.prog 23 #[.int .i64 1, .slice (some ⟨b, 0, none⟩) 2 2] W fun e w' => ∃ A c, e = .returned (.tuple #[.slice A 12 c, .int .i64 0]) ∧ Bys w' w'.heap.size A 12 F1 ∧ Below W.heap.size W w' := by
  have h := form_any (some ⟨b, 0, none⟩) 2 2 1 [65, 66] W (bys_at hb rfl rfl) (by omega)
  rw [ex1] at h
  refine h.mono ?_
  rintro e w' ⟨A, c, rfl, ho, hb⟩
  exact ⟨A, c, rfl, Bys.of_own ho, hb⟩
theorem aw2 (W : World) :
    Calls Try.prog 14 #[.agg #[.slice none 0 0, .int .i64 20]] W fun e w' => ∃ A c A' c', e = .returned (.tuple #[.agg #[.slice A 0 c, .int .i64 20, .int .i64 0, .bool false], .slice A' 0 c', .int .i64 0]) ∧ 0 ≤ c ∧ c ≤ 9223372036854775807 ∧ Bys w' w'.heap.size A 0 [] ∧ Below W.heap.size W w' := by
  have h := open_any none 0 0 20 [] W Bys.nil_ (by omega) (by omega) (by omega) (by omega)
  rw [ex2] at h
  refine h.mono ?_
  rintro e w' ⟨A, c, A', c', vs, rfl, ho, ht, _, hb⟩
  exact ⟨A, c, A', c', rfl, (own_cap ho).1, (own_cap ho).2, Bys.of_own ho, hb⟩
theorem aw3 (A : Option Addr) (c b : Nat) (W : World) (hb : W.heap[b]? = some (.cells #[.int .u8 65, .int .u8 66] 5 (0, 0))) (hA : Bys W W.heap.size A 0 []) (h0 : 0 ≤ c) (hc : c ≤ 9223372036854775807) :
    Calls Try.prog 19 #[.agg #[.slice A 0 c, .int .i64 20, .int .i64 0, .bool false], .slice (some ⟨b, 0, none⟩) 2 2] W fun e w' => ∃ A c, e = .returned (.tuple #[.agg #[.slice A 12 c, .int .i64 8, .int .i64 1, .bool false], .int .i64 0]) ∧ 12 ≤ c ∧ c ≤ 9223372036854775807 ∧ w'.ownsRow W.heap.size 5 1 (.slice A 12 c) 12 (bys F1) ∧ Below W.heap.size W w' := by
  have h := add_any A (some ⟨b, 0, none⟩) 0 c 2 2 20 0 false [] [65, 66] W hA (bys_at hb rfl rfl) (by omega) (by omega) hc (by omega) (by omega) (by omega)
  rw [ex3] at h
  refine h.mono ?_
  rintro e w' ⟨A, c, rfl, ho, hb⟩
  exact ⟨A, c, rfl, (own_cap ho).1, (own_cap ho).2, ho, hb⟩
theorem aw4 (A : Option Addr) (c b : Nat) (W : World) (hb : W.heap[b]? = some (.cells #[.int .u8 67] 5 (0, 0))) (hA : Bys W W.heap.size A 12 F1) (h0 : 12 ≤ c) (hc : c ≤ 9223372036854775807) :
    Calls Try.prog 19 #[.agg #[.slice A 12 c, .int .i64 8, .int .i64 1, .bool false], .slice (some ⟨b, 0, none⟩) 1 1] W fun e w' => ∃ A c, e = .returned (.tuple #[.agg #[.slice A 20 c, .int .i64 0, .int .i64 1, .bool true], .int .i64 370]) ∧ 20 ≤ c ∧ c ≤ 9223372036854775807 ∧ w'.ownsRow W.heap.size 5 1 (.slice A 20 c) 20 (bys D20) ∧ Below W.heap.size W w' := by
  have h := add_any A (some ⟨b, 0, none⟩) 12 c 1 1 8 1 false F1 [67] W hA (bys_at hb rfl rfl) (by omega) (by omega) hc (by omega) (by omega) (by omega)
  rw [ex4] at h
  refine h.mono ?_
  rintro e w' ⟨A, c, rfl, ho, hb⟩
  exact ⟨A, c, rfl, (own_cap ho).1, (own_cap ho).2, ho, hb⟩
theorem aw5 (A : Option Addr) (c : Nat) (W : World) (hA : Bys W W.heap.size A 20 D20) (h0 : 20 ≤ c) (hc : c ≤ 9223372036854775807) :
    Calls Try.prog 10 #[.agg #[.slice A 20 c, .int .i64 0, .int .i64 1, .bool true], .int .i64 1] W fun e w' => ∃ A c, e = .returned (.tuple #[.agg #[.slice A 20 c, .int .i64 1], .int .i64 0]) ∧ 20 ≤ c ∧ c ≤ 9223372036854775807 ∧ Bys w' w'.heap.size A 20 D20 ∧ Below W.heap.size W w' := by
  have h := restore_any A 20 c 0 1 1 true D20 W hA (by omega) h0 hc
  rw [ex5] at h
  refine h.mono ?_
  rintro e w' ⟨A, c, rfl, ho, hb⟩
  exact ⟨A, c, rfl, (own_cap ho).1, (own_cap ho).2, Bys.of_own ho, hb⟩
theorem aw6 (A : Option Addr) (c : Nat) (W : World) (hA : Bys W W.heap.size A 20 D20) (h0 : 20 ≤ c) (hc : c ≤ 9223372036854775807) :
    Calls Try.prog 14 #[.agg #[.slice A 20 c, .int .i64 1]] W fun e w' => ∃ A c g c' A1 c1, e = .returned (.tuple #[.agg #[.slice A 12 c, .int .i64 0, .int .i64 1, .bool false], .slice (some ⟨g, 0, none⟩) 1 c', .int .i64 0]) ∧ g < w'.heap.size ∧ w'.cell? ⟨g, 0, none⟩ = some (.slice A1 2 c1) ∧ Bys w' w'.heap.size A1 2 [65, 66] ∧ Below W.heap.size W w' := by
  have h := open_any A 20 c 1 D20 W hA (by omega) h0 hc (by omega)
  rw [ex6] at h
  refine h.mono ?_
  rintro e w' ⟨A, c, A', c', vs, rfl, ho, ht, hv, hb⟩
  obtain ⟨g, rfl, _, hg⟩ := own_some ht (by simp)
  cases vs with
  | nil => exact hv.elim
  | cons v vs =>
    obtain ⟨A1, c1, hv1, _⟩ := own_shape hv.1
    subst hv1
    have h0 : w'.cell? ⟨g, 0, none⟩ = some (.slice A1 2 c1) := ht.cells rfl 0 _ rfl
    exact ⟨A, c, g, c', A1, c1, rfl, hg, h0, Bys.of_own hv.1, hb⟩

set_option maxRecDepth 100000 in
set_option maxHeartbeats 4000000 in
theorem awake_any (w : World) : Calls Try.prog 9 #[] w fun e w' => e = .returned (.bool true) ∧ Below w.heap.size w w' := by
  go_enter Try.func9, Try.ntmps9
  go_wp2_with fail
  refine (aw1 _ _ (heap_at rfl)).mono ?_
  rintro e w1 ⟨A1, c1, rfl, hy1, hb1⟩
  have HY1 := Lib.hid hy1
  have HB1 := Lib.hid (Below.trans (by go_grown) (hb1.mono (by first | omega | (simp; done) | (simp; omega))) : Below w.heap.size w w1)
  clear hy1 hb1
  go_wp2_with fail
  refine (aw2 _).mono ?_
  rintro e w2 ⟨A2, c2, A3, c3, rfl, h2, h2', hy2, hb2⟩
  have HY2 := Lib.hid hy2
  have HB2 := Lib.hid hb2
  clear hy2 hb2
  go_wp2_with fail
  have KA := fun (b : Nat) (W : World) (hb : W.heap[b]? = some (.cells #[.int .u8 65, .int .u8 66] 5 (0, 0))) (hW : Below w2.heap.size w2 W) => aw3 A2 c2 b W hb (HY2.out.to hW) h2 h2'
  (with_reducible refine (KA _ _ (heap_at (by simp)) (by go_grown)).mono ?_)
  rintro e w3 ⟨A4, c4, rfl, h3, h3', ho3, hb3⟩
  have HB3 := Lib.hid (Below.trans (by go_grown) (hb3.mono (by first | omega | (simp; done) | (simp; omega))) : Below w2.heap.size w2 w3)
  have r3 := (hb3.block w2.heap.size (by first | omega | (simp; done) | (simp; omega))).trans (show _ = some (Obj.cells #[.slice A2 0 c2, .int .i64 20, .int .i64 0, .bool false] 29 (0, 0)) from (by (try rw [get_drew]); simp only [get_alloc, get_set, World.size_alloc, World.size_setCell]; simp [Nat.add_assoc]))
  have HO3 := Lib.hid (own_more ho3 (by first | omega | (simp; done) | (simp; omega)) : w3.ownsRow (w2.heap.size + 1) 5 1 (.slice A4 12 c4) 12 (bys F1))
  clear KA ho3 hb3
  obtain ⟨L, hL⟩ : ∃ L, w2.heap.size = L := ⟨_, rfl⟩
  rw [hL] at r3 HO3 ⊢
  have HL := Lib.hid hL
  clear hL
  have e0 := cell_of_row _ _ 0 _ _ _ r3
  have e1 := cell_of_row _ _ 1 _ _ _ r3
  have e2 := cell_of_row _ _ 2 _ _ _ r3
  have e3 := cell_of_row _ _ 3 _ _ _ r3
  have f0 := frozen_of_row _ _ 0 _ _ r3
  have f1 := frozen_of_row _ _ 1 _ _ r3
  have f2 := frozen_of_row _ _ 2 _ _ r3
  have f3 := frozen_of_row _ _ 3 _ _ r3
  have l0 := row_lt r3
  have Rx := Lib.hid r3
  clear r3
  go_upto_region 4 with (fail)
  generalize hw : World.setCell (World.setCell (World.setCell (World.setCell w3 _ _) _ _) _ _) _ _ = W3
  have RW3 : Hid (W3.heap[L]? = some (.cells #[.slice A4 12 c4, .int .i64 8, .int .i64 1, .bool false] 29 (0, 0))) := by
    rw [← hw]
    exact Lib.hid (set_row (set_row (set_row (set_row Rx.out _) _) _) _)
  have OW3 : Hid (W3.ownsRow (L + 1) 5 1 (.slice A4 12 c4) 12 (bys F1)) := by
    rw [← hw]
    refine Lib.hid (own_set (own_set (own_set (own_set HO3.out ?_ _) ?_ _) ?_ _) ?_ _)
    all_goals
      intro k hk e
      have := HO3.out.lt k hk
      dsimp only at e
      omega
  have BW3 : Hid (Below L w3 W3) := by
    rw [← hw]
    exact Lib.hid (((((Below.refl _ _).setCell (by simp) _).setCell (by simp) _).setCell (by simp) _).setCell (by simp) _)
  clear hw e0 e1 e2 e3 f0 f1 f2 f3 l0 Rx HO3
  have rx := RW3.out
  have e0 := cell_of_row _ _ 0 _ _ _ rx
  have e1 := cell_of_row _ _ 1 _ _ _ rx
  have e2 := cell_of_row _ _ 2 _ _ _ rx
  have e3 := cell_of_row _ _ 3 _ _ _ rx
  have f0 := frozen_of_row _ _ 0 _ _ rx
  have f1 := frozen_of_row _ _ 1 _ _ rx
  have f2 := frozen_of_row _ _ 2 _ _ rx
  have f3 := frozen_of_row _ _ 3 _ _ rx
  have l0 := row_lt rx
  clear rx
  have KA := fun (b : Nat) (W : World) (hb : W.heap[b]? = some (.cells #[.int .u8 67] 5 (0, 0))) (hW : Below W3.heap.size W3 W) => aw4 A4 c4 b W hb ((Bys.of_own OW3.out).to hW) h3 h3'
  go_wp2_with fail
  (with_reducible refine (KA _ _ (heap_at rfl) (by go_grown)).mono ?_)
  rintro e w4 ⟨A5, c5, rfl, h4, h4', ho4, hb4⟩
  have HB4 := Lib.hid (Below.trans (by go_grown) (hb4.mono (by first | omega | (simp; done) | (simp; omega))) : Below W3.heap.size W3 w4)
  have r4 := (HB4.out.block L (row_lt RW3.out)).trans RW3.out
  have HO4 := Lib.hid (own_more ho4 (by have := row_lt RW3.out; simp; omega) : w4.ownsRow (L + 1) 5 1 (.slice A5 20 c5) 20 (bys D20))
  clear KA ho4 hb4
  have e0 := cell_of_row _ _ 0 _ _ _ r4
  have e1 := cell_of_row _ _ 1 _ _ _ r4
  have e2 := cell_of_row _ _ 2 _ _ _ r4
  have e3 := cell_of_row _ _ 3 _ _ _ r4
  have f0 := frozen_of_row _ _ 0 _ _ r4
  have f1 := frozen_of_row _ _ 1 _ _ r4
  have f2 := frozen_of_row _ _ 2 _ _ r4
  have f3 := frozen_of_row _ _ 3 _ _ r4
  have l0 := row_lt r4
  have Rx := Lib.hid r4
  clear r4
  go_upto_region 5 with (fail)
  generalize hw : World.setCell (World.setCell (World.setCell (World.setCell w4 _ _) _ _) _ _) _ _ = W4
  have RW4 : Hid (W4.heap[L]? = some (.cells #[.slice A5 20 c5, .int .i64 0, .int .i64 1, .bool true] 29 (0, 0))) := by
    rw [← hw]
    exact Lib.hid (set_row (set_row (set_row (set_row Rx.out _) _) _) _)
  have OW4 : Hid (W4.ownsRow (L + 1) 5 1 (.slice A5 20 c5) 20 (bys D20)) := by
    rw [← hw]
    refine Lib.hid (own_set (own_set (own_set (own_set HO4.out ?_ _) ?_ _) ?_ _) ?_ _)
    all_goals
      intro k hk e
      have := HO4.out.lt k hk
      dsimp only at e
      omega
  have BW4 : Hid (Below L w4 W4) := by
    rw [← hw]
    exact Lib.hid (((((Below.refl _ _).setCell (by simp) _).setCell (by simp) _).setCell (by simp) _).setCell (by simp) _)
  clear hw e0 e1 e2 e3 f0 f1 f2 f3 l0 Rx HO4
  have rx := RW4.out
  have e0 := cell_of_row _ _ 0 _ _ _ rx
  have e1 := cell_of_row _ _ 1 _ _ _ rx
  have e2 := cell_of_row _ _ 2 _ _ _ rx
  have e3 := cell_of_row _ _ 3 _ _ _ rx
  have f0 := frozen_of_row _ _ 0 _ _ rx
  have f1 := frozen_of_row _ _ 1 _ _ rx
  have f2 := frozen_of_row _ _ 2 _ _ rx
  have f3 := frozen_of_row _ _ 3 _ _ rx
  have l0 := row_lt rx
  clear rx
  have KA := fun (W : World) (hW : Below W4.heap.size W4 W) => aw5 A5 c5 W ((Bys.of_own OW4.out).to hW) h4 h4'
  go_wp2_with fail
  (with_reducible refine (KA _ (by go_grown)).mono ?_)
  rintro e w5 ⟨A6, c6, rfl, h5, h5', hy5, hb5⟩
  have HB5 := Lib.hid hb5
  have r5 := (hb5.block L (row_lt RW4.out)).trans RW4.out
  have e0 := cell_of_row _ _ 0 _ _ _ r5
  have e1 := cell_of_row _ _ 1 _ _ _ r5
  have e2 := cell_of_row _ _ 2 _ _ _ r5
  have e3 := cell_of_row _ _ 3 _ _ _ r5
  have f0 := frozen_of_row _ _ 0 _ _ r5
  have f1 := frozen_of_row _ _ 1 _ _ r5
  have f2 := frozen_of_row _ _ 2 _ _ r5
  have f3 := frozen_of_row _ _ 3 _ _ r5
  have l0 := row_lt r5
  have R5 := Lib.hid r5
  have HY5 := Lib.hid hy5
  have KA := fun (W : World) (hW : Below w5.heap.size w5 W) => aw6 A6 c6 W (HY5.out.to hW) h5 h5'
  clear r5 hb5 hy5
  go_upto_region 6 with (fail)
  go_wp2_with fail
  (with_reducible refine (KA _ (by go_grown)).mono ?_)
  rintro e w6 ⟨A7, c7, g, c8, A8, c9, rfl, hg, hgc, hy8, hb6⟩
  have HB6 := Lib.hid (Below.trans (by go_grown) (hb6.mono (by first | omega | (simp; done) | (simp; omega))) : Below w5.heap.size w5 w6)
  clear KA hb6 e0 e1 e2 e3 f0 f1 f2 f3 l0
  go_upto_region 7 with (fail)
  generalize hw : World.alloc w6 _ = WZ
  have hbz : Below w6.heap.size w6 WZ := by rw [← hw]; go_grown
  have rm : WZ.heap[w6.heap.size]? = some (.cells #[.slice A7 12 c7, .int .i64 0, .int .i64 1, .bool false] 29 (0, 0)) := by rw [← hw]; exact heap_at rfl
  have hall : Below w1.heap.size w1 WZ := by
    have a3 := (HL.out ▸ HB3.out : Below L w2 w3)
    have s2 := HB2.out.size
    have s3 : w1.heap.size ≤ L := by rw [← HL.out]; exact s2
    exact HB2.out.trans ((a3.mono s3).trans ((BW3.out.mono s3).trans ((HB4.out.mono (by have := row_lt RW3.out; omega)).trans ((BW4.out.mono s3).trans ((HB5.out.mono (by have := row_lt RW4.out; omega)).trans ((HB6.out.mono (by have := row_lt R5.out; omega)).trans (hbz.mono (by have := row_lt R5.out; have := HB6.out.size; omega))))))))
  have cv1 : (convert 25 9 (.slice A1 12 c1)).run Try.prog WZ = .ok (.string ⟨#[1, 0, 0, 0, 2, 0, 65, 66, 226, 3, 0, 0]⟩) WZ := (HY1.out.to hall).conv _ 5 _ _ Try.underlying25 Try.underlying5 Try.underlying9
  have cv2 : (convert 25 9 (.slice A8 2 c9)).run Try.prog WZ = .ok (.string ⟨#[65, 66]⟩) WZ := (hy8.to hbz).conv _ 5 _ _ Try.underlying25 Try.underlying5 Try.underlying9
  have hgz : WZ.cell? ⟨g, 0, none⟩ = some (.slice A8 2 c9) := (hbz.cell (p := ⟨g, 0, none⟩) hg).trans hgc
  have rl : WZ.heap[L]? = some (.cells #[.slice A5 20 c5, .int .i64 0, .int .i64 1, .bool true] 29 (0, 0)) := (hbz.block L (Nat.lt_of_lt_of_le (row_lt R5.out) HB6.out.size)).trans ((HB6.out.block L (row_lt R5.out)).trans R5.out)
  have HALL := Lib.hid (HB1.out.trans (hall.mono HB1.out.size))
  clear hw hbz hall hgc hy8
  have e0 : WZ.cell? ⟨L, 0, none⟩ = some (.slice A5 20 c5) := cell_of_row _ _ 0 _ _ _ rl
  have e1 : WZ.cell? ⟨L, 1, none⟩ = some (.int .i64 0) := cell_of_row _ _ 1 _ _ _ rl
  have e2 : WZ.cell? ⟨L, 2, none⟩ = some (.int .i64 1) := cell_of_row _ _ 2 _ _ _ rl
  have e3 : WZ.cell? ⟨L, 3, none⟩ = some (.bool true) := cell_of_row _ _ 3 _ _ _ rl
  have d0 : WZ.cell? ⟨w6.heap.size, 0, none⟩ = some (.slice A7 12 c7) := cell_of_row _ _ 0 _ _ _ rm
  have d1 : WZ.cell? ⟨w6.heap.size, 1, none⟩ = some (.int .i64 0) := cell_of_row _ _ 1 _ _ _ rm
  have d2 : WZ.cell? ⟨w6.heap.size, 2, none⟩ = some (.int .i64 1) := cell_of_row _ _ 2 _ _ _ rm
  have d3 : WZ.cell? ⟨w6.heap.size, 3, none⟩ = some (.bool false) := cell_of_row _ _ 3 _ _ _ rm
  clear rl rm
  go_wp2_with fail
  go_ret
  exact ⟨rfl, HALL.out⟩
end Go.Proofs.Ytbkicepkkcambaa
