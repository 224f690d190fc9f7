/- The reference: Right. -/
import Derived.Test.YtbkicepkkcambaaJouR4
namespace Go.Proofs.Ytbkicepkkcambaa
open Go.RowKit BigFrame Go.Shelf
set_option linter.unusedVariables false
set_option linter.unusedSimpArgs false

set_option maxRecDepth 100000 in
set_option maxHeartbeats 2000000 in
theorem refright_any (A : Option Addr) (n c : Nat) (p k : Int) (down : Bool) (d : Bytes) (w : World) (h : Bys w w.heap.size A n d) (hn : n ≤ 100000000000) (hc : n ≤ c) (hc63 : c ≤ 9223372036854775807) :
    Calls Try.prog 30 #[.agg #[.slice A n c, .int .i64 p, .int .i64 k, .bool down]] w fun e w' => e = .returned (.bool (rightB ⟨d, p, k, down⟩)) ∧ Below w.heap.size w w' := by
  have HH := Lib.hid h
  have hl := h.len
  have hr : rightB ⟨d, p, k, down⟩ = (stoOk ⟨d, p⟩ && decide (((scan d).length : Int) = k) && (down || decide (sizes (scan d) = n))) := by
    unfold rightB Lg.sto endOf
    rw [hl]
  have hro := scan_room d (scan d).length
  rw [List.take_length, hl] at hro
  have hsh := scan_short d
  clear h hl
  rw [hr]
  clear hr
  obtain ⟨R, hR⟩ : ∃ R, (stoOk ⟨d, p⟩ && decide (((scan d).length : Int) = k) && (down || decide (sizes (scan d) = n))) = R := ⟨_, rfl⟩
  rw [hR]
  obtain ⟨b, hv⟩ : ∃ b, stoOk ⟨d, p⟩ = b := ⟨_, rfl⟩
  rw [hv] at hR
  have HV := Lib.hid hv
  clear hv
  cases b with
  | false =>
    have HR := Lib.hid (show false = R by rw [← hR]; simp)
    clear hR
    go_enter Try.func30, Try.ntmps30
    go_wp2_with fail
    refine (refscan_any A n c d _ (HH.out.to (by go_grown)) hn hc hc63).mono ?_
    rintro e w1 ⟨A1, c1, vs, rfl, ho1, ht1, hb1⟩
    have r0 := (hb1.block w.heap.size (by first | omega | (simp; done) | (simp; omega))).trans (show _ = some (Obj.cells #[.slice A n c, .int .i64 p, .int .i64 k, .bool down] 32 (0, 0)) from (by (try rw [get_drew]); simp only [get_alloc, get_set, World.size_alloc, World.size_setCell]; simp [Nat.add_assoc]))
    have HB1 := Lib.hid (Below.trans (by go_grown) (hb1.mono (by first | omega | (simp; done) | (simp; omega))) : Below w.heap.size w w1)
    have e0 := cell_of_row _ _ 0 _ _ _ r0
    have e1 := cell_of_row _ _ 1 _ _ _ r0
    have e2 := cell_of_row _ _ 2 _ _ _ r0
    have e3 : w1.cell? ⟨w.heap.size, 3, none⟩ = some (.bool down) := cell_of_row _ _ 3 _ _ _ r0
    have R0 := Lib.hid r0
    clear r0 hb1 ho1 ht1
    generalize (scan d).length = m at *
    generalize sizes (scan d) = z at *
    go_wp2_with fail
    refine (refvalid_any A n c p d _ (HH.out.to HB1.out) hn).mono ?_
    rintro e w2 ⟨rfl, hb2⟩
    rw [HV.out]
    have r0 := (hb2.block w.heap.size (row_lt R0.out)).trans R0.out
    have HB2 := Lib.hid (HB1.out.trans (hb2.mono HB1.out.size))
    have e0 := cell_of_row _ _ 0 _ _ _ r0
    have e1 := cell_of_row _ _ 1 _ _ _ r0
    have e2 := cell_of_row _ _ 2 _ _ _ r0
    have e3 : w2.cell? ⟨w.heap.size, 3, none⟩ = some (.bool down) := cell_of_row _ _ 3 _ _ _ r0
    clear r0 hb2
    go_wp2_with fail
    go_ret
    exact ⟨ret_bool HR.out, HB2.out⟩
  | true =>
    by_cases h1 : ((scan d).length : Int) = k
    · have i1 : (((scan d).length : Int) == k) = true := by simpa using h1
      rw [decide_eq_true h1] at hR
      clear h1
      cases down with
      | true =>
        have HR := Lib.hid (show true = R by rw [← hR]; simp)
        clear hR
        go_enter Try.func30, Try.ntmps30
        go_wp2_with fail
        refine (refscan_any A n c d _ (HH.out.to (by go_grown)) hn hc hc63).mono ?_
        rintro e w1 ⟨A1, c1, vs, rfl, ho1, ht1, hb1⟩
        have r0 := (hb1.block w.heap.size (by first | omega | (simp; done) | (simp; omega))).trans (show _ = some (Obj.cells #[.slice A n c, .int .i64 p, .int .i64 k, .bool true] 32 (0, 0)) from (by (try rw [get_drew]); simp only [get_alloc, get_set, World.size_alloc, World.size_setCell]; simp [Nat.add_assoc]))
        have HB1 := Lib.hid (Below.trans (by go_grown) (hb1.mono (by first | omega | (simp; done) | (simp; omega))) : Below w.heap.size w w1)
        have e0 := cell_of_row _ _ 0 _ _ _ r0
        have e1 := cell_of_row _ _ 1 _ _ _ r0
        have e2 := cell_of_row _ _ 2 _ _ _ r0
        have e3 : w1.cell? ⟨w.heap.size, 3, none⟩ = some (.bool true) := cell_of_row _ _ 3 _ _ _ r0
        have R0 := Lib.hid r0
        clear r0 hb1 ho1 ht1
        generalize (scan d).length = m at *
        generalize sizes (scan d) = z at *
        go_wp2_with fail
        refine (refvalid_any A n c p d _ (HH.out.to HB1.out) hn).mono ?_
        rintro e w2 ⟨rfl, hb2⟩
        rw [HV.out]
        have r0 := (hb2.block w.heap.size (row_lt R0.out)).trans R0.out
        have HB2 := Lib.hid (HB1.out.trans (hb2.mono HB1.out.size))
        have e0 := cell_of_row _ _ 0 _ _ _ r0
        have e1 := cell_of_row _ _ 1 _ _ _ r0
        have e2 := cell_of_row _ _ 2 _ _ _ r0
        have e3 : w2.cell? ⟨w.heap.size, 3, none⟩ = some (.bool true) := cell_of_row _ _ 3 _ _ _ r0
        clear r0 hb2
        go_wp2_with fail
        go_ret
        exact ⟨ret_bool HR.out, HB2.out⟩
      | false =>
        have HR := Lib.hid (show (((sizes (scan d) : Nat) : Int) == (n : Int)) = R by
          rw [← hR, Bool.eq_iff_iff]
          simp
          omega)
        clear hR
        go_enter Try.func30, Try.ntmps30
        go_wp2_with fail
        refine (refscan_any A n c d _ (HH.out.to (by go_grown)) hn hc hc63).mono ?_
        rintro e w1 ⟨A1, c1, vs, rfl, ho1, ht1, hb1⟩
        have r0 := (hb1.block w.heap.size (by first | omega | (simp; done) | (simp; omega))).trans (show _ = some (Obj.cells #[.slice A n c, .int .i64 p, .int .i64 k, .bool false] 32 (0, 0)) from (by (try rw [get_drew]); simp only [get_alloc, get_set, World.size_alloc, World.size_setCell]; simp [Nat.add_assoc]))
        have HB1 := Lib.hid (Below.trans (by go_grown) (hb1.mono (by first | omega | (simp; done) | (simp; omega))) : Below w.heap.size w w1)
        have e0 := cell_of_row _ _ 0 _ _ _ r0
        have e1 := cell_of_row _ _ 1 _ _ _ r0
        have e2 := cell_of_row _ _ 2 _ _ _ r0
        have e3 : w1.cell? ⟨w.heap.size, 3, none⟩ = some (.bool false) := cell_of_row _ _ 3 _ _ _ r0
        have R0 := Lib.hid r0
        clear r0 hb1 ho1 ht1
        generalize (scan d).length = m at *
        generalize sizes (scan d) = z at *
        go_wp2_with fail
        refine (refvalid_any A n c p d _ (HH.out.to HB1.out) hn).mono ?_
        rintro e w2 ⟨rfl, hb2⟩
        rw [HV.out]
        have r0 := (hb2.block w.heap.size (row_lt R0.out)).trans R0.out
        have HB2 := Lib.hid (HB1.out.trans (hb2.mono HB1.out.size))
        have e0 := cell_of_row _ _ 0 _ _ _ r0
        have e1 := cell_of_row _ _ 1 _ _ _ r0
        have e2 := cell_of_row _ _ 2 _ _ _ r0
        have e3 : w2.cell? ⟨w.heap.size, 3, none⟩ = some (.bool false) := cell_of_row _ _ 3 _ _ _ r0
        clear r0 hb2
        go_wp2_with fail
        go_ret
        exact ⟨ret_bool HR.out, HB2.out⟩
    · have i1 : (((scan d).length : Int) == k) = false := by rw [beq_eq_false_iff_ne]; exact h1
      have HR := Lib.hid (show false = R by rw [← hR]; simp [h1])
      clear hR
      clear h1
      go_enter Try.func30, Try.ntmps30
      go_wp2_with fail
      refine (refscan_any A n c d _ (HH.out.to (by go_grown)) hn hc hc63).mono ?_
      rintro e w1 ⟨A1, c1, vs, rfl, ho1, ht1, hb1⟩
      have r0 := (hb1.block w.heap.size (by first | omega | (simp; done) | (simp; omega))).trans (show _ = some (Obj.cells #[.slice A n c, .int .i64 p, .int .i64 k, .bool down] 32 (0, 0)) from (by (try rw [get_drew]); simp only [get_alloc, get_set, World.size_alloc, World.size_setCell]; simp [Nat.add_assoc]))
      have HB1 := Lib.hid (Below.trans (by go_grown) (hb1.mono (by first | omega | (simp; done) | (simp; omega))) : Below w.heap.size w w1)
      have e0 := cell_of_row _ _ 0 _ _ _ r0
      have e1 := cell_of_row _ _ 1 _ _ _ r0
      have e2 := cell_of_row _ _ 2 _ _ _ r0
      have e3 : w1.cell? ⟨w.heap.size, 3, none⟩ = some (.bool down) := cell_of_row _ _ 3 _ _ _ r0
      have R0 := Lib.hid r0
      clear r0 hb1 ho1 ht1
      generalize (scan d).length = m at *
      generalize sizes (scan d) = z at *
      go_wp2_with fail
      refine (refvalid_any A n c p d _ (HH.out.to HB1.out) hn).mono ?_
      rintro e w2 ⟨rfl, hb2⟩
      rw [HV.out]
      have r0 := (hb2.block w.heap.size (row_lt R0.out)).trans R0.out
      have HB2 := Lib.hid (HB1.out.trans (hb2.mono HB1.out.size))
      have e0 := cell_of_row _ _ 0 _ _ _ r0
      have e1 := cell_of_row _ _ 1 _ _ _ r0
      have e2 := cell_of_row _ _ 2 _ _ _ r0
      have e3 : w2.cell? ⟨w.heap.size, 3, none⟩ = some (.bool down) := cell_of_row _ _ 3 _ _ _ r0
      clear r0 hb2
      go_wp2_with fail
      go_ret
      exact ⟨ret_bool HR.out, HB2.out⟩
end Go.Proofs.Ytbkicepkkcambaa
