/- Write, Cut, Restore, Form. -/
import Derived.Test.YtbkicepkkcambaaJouJ
namespace Go.Proofs.Ytbkicepkkcambaa
open Go.RowKit BigFrame Go.Shelf
set_option linter.unusedVariables false
set_option linter.unusedSimpArgs false

theorem valid_sto (A : Option Addr) (n c : Nat) (d : Bytes) (p : Int) (w : World) (h : Bys w w.heap.size A n d) (hn : n ≤ 100000000000) :
    Calls Try.prog 26 #[.agg #[.slice A n c, .int .i64 p]] w fun e w' => e = .returned (.bool (stoOk ⟨d, p⟩)) ∧ Below w.heap.size w w' := by
  refine (valid_any A n c p w hn).mono ?_
  rintro e w' ⟨rfl, hb⟩
  refine ⟨?_, hb⟩
  unfold stoOk
  rw [h.len, Bool.decide_and]
theorem gives_zero {w w' : World} (er : Int) (h : Below w.heap.size w w') : GivesSto w (Sto.zero, er) (.returned (.tuple #[.agg #[.slice none 0 0, .int .i64 0], .int .i64 er])) w' :=
  ⟨none, 0, rfl, World.ownsRow_nil _ _ _ _, h⟩
theorem GivesSto.later {w w1 w' : World} {r : Sto × Int} {e : Ending} (hb : Below w.heap.size w w1) (h : GivesSto w1 r e w') : GivesSto w r e w' := by
  obtain ⟨A, c, he, ho, hb'⟩ := h
  exact ⟨A, c, he, own_more ho hb.size, hb.trans (hb'.mono hb.size)⟩

set_option maxRecDepth 100000 in
set_option maxHeartbeats 4000000 in
theorem write_any (A A1 : Option Addr) (n c n1 c1 : Nat) (p : Int) (d x : Bytes) (w : World) (h : Bys w w.heap.size A n d) (hx : Bys w w.heap.size A1 n1 x) (hn : n ≤ 10000000000) (hn1 : n1 ≤ 10000000000) (hc1 : n1 ≤ c1) (hc63 : c1 ≤ 9223372036854775807) (hp : p ≤ 9223372036854775807) :
    Calls Try.prog 27 #[.agg #[.slice A n c, .int .i64 p], .slice A1 n1 c1] w (GivesSto w (writeR ⟨d, p⟩ x)) := by
  cases hv : stoOk ⟨d, p⟩ with
  | false =>
    have HR := Lib.hid (show (Sto.zero, (2 : Int)) = writeR ⟨d, p⟩ x by unfold writeR; rw [if_pos hv])
    have HV := Lib.hid hv
    have HH := Lib.hid h
    clear hv h
    go_enter Try.func27, Try.ntmps27
    go_wp2_with fail
    refine (valid_sto A n c d p _ (HH.out.to (by go_grown)) (by omega)).mono ?_
    rintro e w1 ⟨rfl, hb1⟩
    rw [HV.out]
    obtain ⟨hc, hf⟩ := bcell hb1
    have hz : w.heap.size + 1 < w1.heap.size := by have := hb1.size; simp at this; omega
    have HB1 := Lib.hid (Below.trans (by go_grown) (hb1.mono (by first | omega | (simp; done) | (simp; omega))) : Below w.heap.size w w1)
    go_wp2_with fail
    refine bodyPost_ret (v := .tuple #[.agg #[.slice none 0 0, .int .i64 0], .int .i64 2]) (by simp [results, Try.results27, Try.results28, Try.results10, go_sem, hc, hf, hz]) rfl ?_
    exact HR.out ▸ gives_zero 2 (((Below.trans (by go_grown) (hb1.mono (by simp; omega))).setCell (by simp) _).setCell (by simp) _)
  | true =>
    by_cases hs : 1048576 < n + n1
    · have HR := Lib.hid (show (Sto.zero, (4 : Int)) = writeR ⟨d, p⟩ x by unfold writeR; rw [if_neg (by simp [hv]), if_pos (by rw [h.len, hx.len]; exact hs)])
      have hi : (1048576 : Int) < (n : Int) + n1 := by omega
      have HV := Lib.hid hv
      have HH := Lib.hid h
      clear hv h
      go_enter Try.func27, Try.ntmps27
      go_wp2_with fail
      refine (valid_sto A n c d p _ (HH.out.to (by go_grown)) (by omega)).mono ?_
      rintro e w1 ⟨rfl, hb1⟩
      rw [HV.out]
      obtain ⟨hc, hf⟩ := bcell hb1
      have hz : w.heap.size + 1 < w1.heap.size := by have := hb1.size; simp at this; omega
      have HB1 := Lib.hid (Below.trans (by go_grown) (hb1.mono (by first | omega | (simp; done) | (simp; omega))) : Below w.heap.size w w1)
      go_wp2_with fail
      refine bodyPost_ret (v := .tuple #[.agg #[.slice none 0 0, .int .i64 0], .int .i64 4]) (by simp [results, Try.results27, Try.results28, Try.results10, go_sem, hc, hf, hz]) rfl ?_
      exact HR.out ▸ gives_zero 4 (((Below.trans (by go_grown) (hb1.mono (by simp; omega))).setCell (by simp) _).setCell (by simp) _)
    · have HR := Lib.hid (show (wrote ⟨d, p⟩ x, wroteE ⟨d, p⟩ x) = writeR ⟨d, p⟩ x by unfold writeR; rw [if_neg (by simp [hv]), if_neg (by rw [h.len, hx.len]; exact hs)])
      have hi : ¬ (1048576 : Int) < (n : Int) + n1 := by omega
      have hp0 : -1 ≤ p := by
        unfold stoOk at hv
        simp at hv
        exact hv.2
      have HX := Lib.hid hx
      clear hx
      have HV := Lib.hid hv
      have HH := Lib.hid h
      clear hv h
      go_enter Try.func27, Try.ntmps27
      go_wp2_with fail
      refine (valid_sto A n c d p _ (HH.out.to (by go_grown)) (by omega)).mono ?_
      rintro e w1 ⟨rfl, hb1⟩
      rw [HV.out]
      obtain ⟨hc, hf⟩ := bcell hb1
      have hz : w.heap.size + 1 < w1.heap.size := by have := hb1.size; simp at this; omega
      have HB1 := Lib.hid (Below.trans (by go_grown) (hb1.mono (by first | omega | (simp; done) | (simp; omega))) : Below w.heap.size w w1)
      have KW := Lib.hid (written_any A A1 n c n1 c1 p d x w1 (HH.out.to HB1.out) (HX.out.to HB1.out) hn hn1 hc1 hc63 hp hp0)
      have x0 := Lib.hid (hb1.block (w.heap.size + 1) (by first | omega | (simp; done) | (simp; omega)))
      go_wp2_with fail
      refine KW.out.mono ?_
      rintro e w3 ⟨A3, c3, rfl, ho3, hb3⟩
      have r1 := (hb3.block (w.heap.size + 1) (by first | omega | (simp; done) | (simp; omega))).trans (x0.out.trans (show _ = some (Obj.cells #[.slice none 0 0, .int .i64 0] 27 (0, 0)) from (by (try rw [get_drew]); simp only [get_alloc, get_set, World.size_alloc, World.size_setCell]; simp [Nat.add_assoc])))
      have HB3 := Lib.hid (HB1.out.trans (hb3.mono HB1.out.size) : Below w.heap.size w w3)
      have HO3 := Lib.hid ho3
      have d0 := cell_of_row _ _ 0 _ _ _ r1
      have d1 := cell_of_row _ _ 1 _ _ _ r1
      have g0 := frozen_of_row _ _ 0 _ _ r1
      have g1 := frozen_of_row _ _ 1 _ _ r1
      have l1 := row_lt r1
      clear hb3 ho3 hc hf hb1
      go_wp2_with fail
      refine bodyPost_ret (v := .tuple #[.agg #[.slice A3 (wrote ⟨d, p⟩ x).data.length c3, .int .i64 (wrote ⟨d, p⟩ x).power], .int .i64 (wroteE ⟨d, p⟩ x)]) (by simp [results, Try.results27, go_sem, d0, d1]) rfl ?_
      refine HR.out ▸ ⟨A3, c3, rfl, own_more (own_set (own_set HO3.out ?_ _) ?_ _) HB1.out.size, (HB3.out.setCell (by simp) _).setCell (by simp) _⟩
      all_goals
        intro k hk e
        have := HO3.out.lt k hk
        dsimp only at e
        omega

set_option maxRecDepth 100000 in
set_option maxHeartbeats 1000000 in
theorem cut_any (A : Option Addr) (n c : Nat) (p k0 : Int) (d : Bytes) (w : World) (h : Bys w w.heap.size A n d) (hn : n ≤ 10000000000) (hnc : n ≤ c) (hc63 : c ≤ 9223372036854775807) (hp : p ≤ 9223372036854775807) :
    Calls Try.prog 28 #[.agg #[.slice A n c, .int .i64 p], .int .i64 k0] w (GivesSto w (cutR ⟨d, p⟩ k0)) := by
  cases hv : stoOk ⟨d, p⟩ with
  | false =>
    have HR := Lib.hid (show (Sto.zero, (2 : Int)) = cutR ⟨d, p⟩ k0 by unfold cutR; rw [if_pos (.inl hv)])
    have HV := Lib.hid hv
    have HH := Lib.hid h
    clear hv h
    go_enter Try.func28, Try.ntmps28
    go_wp2_with fail
    refine (valid_sto A n c d p _ (HH.out.to (by go_grown)) (by omega)).mono ?_
    rintro e w1 ⟨rfl, hb1⟩
    rw [HV.out]
    obtain ⟨hc, hf⟩ := bcell hb1
    have hz : w.heap.size + 1 < w1.heap.size := by have := hb1.size; simp at this; omega
    have HB1 := Lib.hid (Below.trans (by go_grown) (hb1.mono (by first | omega | (simp; done) | (simp; omega))) : Below w.heap.size w w1)
    go_wp2_with fail
    refine bodyPost_ret (v := .tuple #[.agg #[.slice none 0 0, .int .i64 0], .int .i64 2]) (by simp [results, Try.results27, Try.results28, Try.results10, go_sem, hc, hf, hz]) rfl ?_
    exact HR.out ▸ gives_zero 2 (((Below.trans (by go_grown) (hb1.mono (by simp; omega))).setCell (by simp) _).setCell (by simp) _)
  | true =>
    have hp0 : -1 ≤ p := by
      unfold stoOk at hv
      simp at hv
      exact hv.2
    by_cases h1 : k0 < 0
    · have HR := Lib.hid (show (Sto.zero, (2 : Int)) = cutR ⟨d, p⟩ k0 by unfold cutR; rw [if_pos (.inr (.inl h1))])
      have HV := Lib.hid hv
      have HH := Lib.hid h
      clear hv h
      go_enter Try.func28, Try.ntmps28
      go_wp2_with fail
      refine (valid_sto A n c d p _ (HH.out.to (by go_grown)) (by omega)).mono ?_
      rintro e w1 ⟨rfl, hb1⟩
      rw [HV.out]
      obtain ⟨hc, hf⟩ := bcell hb1
      have hz : w.heap.size + 1 < w1.heap.size := by have := hb1.size; simp at this; omega
      have HB1 := Lib.hid (Below.trans (by go_grown) (hb1.mono (by first | omega | (simp; done) | (simp; omega))) : Below w.heap.size w w1)
      go_wp2_with fail
      refine bodyPost_ret (v := .tuple #[.agg #[.slice none 0 0, .int .i64 0], .int .i64 2]) (by simp [results, Try.results27, Try.results28, Try.results10, go_sem, hc, hf, hz]) rfl ?_
      exact HR.out ▸ gives_zero 2 (((Below.trans (by go_grown) (hb1.mono (by simp; omega))).setCell (by simp) _).setCell (by simp) _)
    · by_cases h2 : (n : Int) < k0
      · have HR := Lib.hid (show (Sto.zero, (2 : Int)) = cutR ⟨d, p⟩ k0 by unfold cutR; rw [if_pos (.inr (.inr (by rw [h.len]; exact h2)))])
        have HV := Lib.hid hv
        have HH := Lib.hid h
        clear hv h
        go_enter Try.func28, Try.ntmps28
        go_wp2_with fail
        refine (valid_sto A n c d p _ (HH.out.to (by go_grown)) (by omega)).mono ?_
        rintro e w1 ⟨rfl, hb1⟩
        rw [HV.out]
        obtain ⟨hc, hf⟩ := bcell hb1
        have hz : w.heap.size + 1 < w1.heap.size := by have := hb1.size; simp at this; omega
        have HB1 := Lib.hid (Below.trans (by go_grown) (hb1.mono (by first | omega | (simp; done) | (simp; omega))) : Below w.heap.size w w1)
        go_wp2_with fail
        refine bodyPost_ret (v := .tuple #[.agg #[.slice none 0 0, .int .i64 0], .int .i64 2]) (by simp [results, Try.results27, Try.results28, Try.results10, go_sem, hc, hf, hz]) rfl ?_
        exact HR.out ▸ gives_zero 2 (((Below.trans (by go_grown) (hb1.mono (by simp; omega))).setCell (by simp) _).setCell (by simp) _)
      · obtain ⟨k, rfl⟩ : ∃ k : Nat, k0 = k := ⟨k0.toNat, by omega⟩
        have hk : k ≤ n := by omega
        have HL := Lib.hid (show (d.take k).length = k by rw [List.length_take, h.len]; omega)
        by_cases h3 : k < n
        · have i3 : (k : Int) < n := by omega
          by_cases h4 : p = 0
          · have h4' : (p == 0) = true := by simpa using h4
            have HR := Lib.hid (show (Sto.zero, (370 : Int)) = cutR ⟨d, p⟩ k by unfold cutR; rw [if_neg (by simp [hv, h.len]; omega), if_pos ⟨by rw [h.len]; exact i3, h4⟩])
            clear h4
            have HV := Lib.hid hv
            have HH := Lib.hid h
            clear hv h
            go_enter Try.func28, Try.ntmps28
            go_wp2_with fail
            refine (valid_sto A n c d p _ (HH.out.to (by go_grown)) (by omega)).mono ?_
            rintro e w1 ⟨rfl, hb1⟩
            rw [HV.out]
            obtain ⟨hc, hf⟩ := bcell hb1
            have hz : w.heap.size + 1 < w1.heap.size := by have := hb1.size; simp at this; omega
            have HB1 := Lib.hid (Below.trans (by go_grown) (hb1.mono (by first | omega | (simp; done) | (simp; omega))) : Below w.heap.size w w1)
            go_wp2_with fail
            refine bodyPost_ret (v := .tuple #[.agg #[.slice none 0 0, .int .i64 0], .int .i64 370]) (by simp [results, Try.results27, Try.results28, Try.results10, go_sem, hc, hf, hz]) rfl ?_
            exact HR.out ▸ gives_zero 370 (((Below.trans (by go_grown) (hb1.mono (by simp; omega))).setCell (by simp) _).setCell (by simp) _)
          · have h4' : (p == 0) = false := by simpa using h4
            by_cases h5 : 0 < p
            · have HR := Lib.hid (show ((⟨d.take k, p - 1⟩ : Sto), (0 : Int)) = cutR ⟨d, p⟩ k by unfold cutR; rw [if_neg (by simp [hv, h.len]; omega), if_neg (by simp [h4]), if_pos ⟨by rw [h.len]; exact i3, h5⟩]; rfl)
              have HV := Lib.hid hv
              have HH := Lib.hid h
              clear hv h
              go_enter Try.func28, Try.ntmps28
              go_wp2_with fail
              refine (valid_sto A n c d p _ (HH.out.to (by go_grown)) (by omega)).mono ?_
              rintro e w1 ⟨rfl, hb1⟩
              rw [HV.out]
              obtain ⟨hc, hf⟩ := bcell hb1
              have hz : w.heap.size + 1 < w1.heap.size := by have := hb1.size; simp at this; omega
              have HB1 := Lib.hid (Below.trans (by go_grown) (hb1.mono (by first | omega | (simp; done) | (simp; omega))) : Below w.heap.size w w1)
              have x0 := Lib.hid ((hb1.block w.heap.size (by first | omega | (simp; done) | (simp; omega))).trans (show _ = some (Obj.cells #[.slice A n c, .int .i64 p] 27 (0, 0)) from (by (try rw [get_drew]); simp only [get_alloc, get_set, World.size_alloc, World.size_setCell]; simp [Nat.add_assoc])))
              have x1 := Lib.hid ((hb1.block (w.heap.size + 1) (by first | omega | (simp; done) | (simp; omega))).trans (show _ = some (Obj.cells #[.slice none 0 0, .int .i64 0] 27 (0, 0)) from (by (try rw [get_drew]); simp only [get_alloc, get_set, World.size_alloc, World.size_setCell]; simp [Nat.add_assoc])))
              obtain ⟨W, hW⟩ : ∃ W, W = (w1.setCell ⟨w.heap.size, 1, none⟩ (.int .i64 (p - 1))) := ⟨_, rfl⟩
              have HBW : Hid (Below w.heap.size w W) := Lib.hid (by rw [hW]; exact HB1.out.setCell (by simp) _)
              have y0 : Hid (W.heap[w.heap.size]? = some (Obj.cells #[.slice A n c, .int .i64 (p - 1)] 27 (0, 0))) := Lib.hid (by rw [hW]; rw [get_set, if_pos rfl, x0.out]; rfl)
              have y1 : Hid (W.heap[w.heap.size + 1]? = some (Obj.cells #[.slice none 0 0, .int .i64 0] 27 (0, 0))) := Lib.hid (by rw [hW]; rw [get_set, if_neg (by omega), x1.out])
              have KC := Lib.hid (clone_byte A k c (d.take k) W (((HH.out.cutTo hk).later (Nat.le_refl _) HBW.out).more HBW.out.size) (by omega))
              rw [hW] at KC
              have HW := Lib.hid hW
              clear hb1 hW
              have e9 : ((k : Int)).toNat = k := by omega
              go_wp2_with fail
              (with_reducible refine KC.out.mono ?_)
              rw [← HW.out]
              rintro e w3 ⟨A3, c3, rfl, ho3, hb3⟩
              have r0 := (hb3.block w.heap.size (row_lt y0.out)).trans y0.out
              have r1 := (hb3.block (w.heap.size + 1) (row_lt y1.out)).trans y1.out
              have HB3 := Lib.hid (HBW.out.trans (hb3.mono HBW.out.size) : Below w.heap.size w w3)
              have HO3 := Lib.hid (own_more ho3 (by have := row_lt y1.out; omega) : w3.ownsRow (w.heap.size + 2) 5 1 (.slice A3 k c3) k (bys (d.take k)))
              have c0 := cell_of_row _ _ 0 _ _ _ r0
              have c1' := cell_of_row _ _ 1 _ _ _ r0
              have d0 := cell_of_row _ _ 0 _ _ _ r1
              have d1 := cell_of_row _ _ 1 _ _ _ r1
              have f0 := frozen_of_row _ _ 0 _ _ r0
              have l0 := row_lt r0
              have g0 := frozen_of_row _ _ 0 _ _ r1
              have g1 := frozen_of_row _ _ 1 _ _ r1
              have l1 := row_lt r1
              clear hb3 ho3 hc hf
              go_wp2_with fail
              refine bodyPost_ret (v := .tuple #[.agg #[.slice A3 k c3, .int .i64 (p - 1)], .int .i64 0]) (by simp [results, Try.results28, go_sem, c0, c1', d0, d1]) rfl ?_
              exact HR.out ▸ end_sto HO3.out HB3.out HL.out _ _ _
            · have HR := Lib.hid (show ((⟨d.take k, p⟩ : Sto), (0 : Int)) = cutR ⟨d, p⟩ k by unfold cutR; rw [if_neg (by simp [hv, h.len]; omega), if_neg (by simp [h4]), if_neg (by simp [h5])]; rfl)
              have HV := Lib.hid hv
              have HH := Lib.hid h
              clear hv h
              go_enter Try.func28, Try.ntmps28
              go_wp2_with fail
              refine (valid_sto A n c d p _ (HH.out.to (by go_grown)) (by omega)).mono ?_
              rintro e w1 ⟨rfl, hb1⟩
              rw [HV.out]
              obtain ⟨hc, hf⟩ := bcell hb1
              have hz : w.heap.size + 1 < w1.heap.size := by have := hb1.size; simp at this; omega
              have HB1 := Lib.hid (Below.trans (by go_grown) (hb1.mono (by first | omega | (simp; done) | (simp; omega))) : Below w.heap.size w w1)
              have x0 := Lib.hid ((hb1.block w.heap.size (by first | omega | (simp; done) | (simp; omega))).trans (show _ = some (Obj.cells #[.slice A n c, .int .i64 p] 27 (0, 0)) from (by (try rw [get_drew]); simp only [get_alloc, get_set, World.size_alloc, World.size_setCell]; simp [Nat.add_assoc])))
              have x1 := Lib.hid ((hb1.block (w.heap.size + 1) (by first | omega | (simp; done) | (simp; omega))).trans (show _ = some (Obj.cells #[.slice none 0 0, .int .i64 0] 27 (0, 0)) from (by (try rw [get_drew]); simp only [get_alloc, get_set, World.size_alloc, World.size_setCell]; simp [Nat.add_assoc])))
              obtain ⟨W, hW⟩ : ∃ W, W = w1 := ⟨_, rfl⟩
              have HBW : Hid (Below w.heap.size w W) := Lib.hid (by rw [hW]; exact HB1.out)
              have y0 : Hid (W.heap[w.heap.size]? = some (Obj.cells #[.slice A n c, .int .i64 p] 27 (0, 0))) := Lib.hid (by rw [hW]; exact x0.out)
              have y1 : Hid (W.heap[w.heap.size + 1]? = some (Obj.cells #[.slice none 0 0, .int .i64 0] 27 (0, 0))) := Lib.hid (by rw [hW]; exact x1.out)
              have KC := Lib.hid (clone_byte A k c (d.take k) W (((HH.out.cutTo hk).later (Nat.le_refl _) HBW.out).more HBW.out.size) (by omega))
              rw [hW] at KC
              have HW := Lib.hid hW
              clear hb1 hW
              have e9 : ((k : Int)).toNat = k := by omega
              go_wp2_with fail
              (with_reducible refine KC.out.mono ?_)
              rw [← HW.out]
              rintro e w3 ⟨A3, c3, rfl, ho3, hb3⟩
              have r0 := (hb3.block w.heap.size (row_lt y0.out)).trans y0.out
              have r1 := (hb3.block (w.heap.size + 1) (row_lt y1.out)).trans y1.out
              have HB3 := Lib.hid (HBW.out.trans (hb3.mono HBW.out.size) : Below w.heap.size w w3)
              have HO3 := Lib.hid (own_more ho3 (by have := row_lt y1.out; omega) : w3.ownsRow (w.heap.size + 2) 5 1 (.slice A3 k c3) k (bys (d.take k)))
              have c0 := cell_of_row _ _ 0 _ _ _ r0
              have c1' := cell_of_row _ _ 1 _ _ _ r0
              have d0 := cell_of_row _ _ 0 _ _ _ r1
              have d1 := cell_of_row _ _ 1 _ _ _ r1
              have f0 := frozen_of_row _ _ 0 _ _ r0
              have l0 := row_lt r0
              have g0 := frozen_of_row _ _ 0 _ _ r1
              have g1 := frozen_of_row _ _ 1 _ _ r1
              have l1 := row_lt r1
              clear hb3 ho3 hc hf
              go_wp2_with fail
              refine bodyPost_ret (v := .tuple #[.agg #[.slice A3 k c3, .int .i64 p], .int .i64 0]) (by simp [results, Try.results28, go_sem, c0, c1', d0, d1]) rfl ?_
              exact HR.out ▸ end_sto HO3.out HB3.out HL.out _ _ _
        · have i3 : ¬ (k : Int) < n := by omega
          have HR := Lib.hid (show ((⟨d.take k, p⟩ : Sto), (0 : Int)) = cutR ⟨d, p⟩ k by unfold cutR; rw [if_neg (by simp [hv, h.len]; omega), if_neg (by simp [h.len]; omega), if_neg (by simp [h.len]; omega)]; rfl)
          have HV := Lib.hid hv
          have HH := Lib.hid h
          clear hv h
          go_enter Try.func28, Try.ntmps28
          go_wp2_with fail
          refine (valid_sto A n c d p _ (HH.out.to (by go_grown)) (by omega)).mono ?_
          rintro e w1 ⟨rfl, hb1⟩
          rw [HV.out]
          obtain ⟨hc, hf⟩ := bcell hb1
          have hz : w.heap.size + 1 < w1.heap.size := by have := hb1.size; simp at this; omega
          have HB1 := Lib.hid (Below.trans (by go_grown) (hb1.mono (by first | omega | (simp; done) | (simp; omega))) : Below w.heap.size w w1)
          have x0 := Lib.hid ((hb1.block w.heap.size (by first | omega | (simp; done) | (simp; omega))).trans (show _ = some (Obj.cells #[.slice A n c, .int .i64 p] 27 (0, 0)) from (by (try rw [get_drew]); simp only [get_alloc, get_set, World.size_alloc, World.size_setCell]; simp [Nat.add_assoc])))
          have x1 := Lib.hid ((hb1.block (w.heap.size + 1) (by first | omega | (simp; done) | (simp; omega))).trans (show _ = some (Obj.cells #[.slice none 0 0, .int .i64 0] 27 (0, 0)) from (by (try rw [get_drew]); simp only [get_alloc, get_set, World.size_alloc, World.size_setCell]; simp [Nat.add_assoc])))
          obtain ⟨W, hW⟩ : ∃ W, W = w1 := ⟨_, rfl⟩
          have HBW : Hid (Below w.heap.size w W) := Lib.hid (by rw [hW]; exact HB1.out)
          have y0 : Hid (W.heap[w.heap.size]? = some (Obj.cells #[.slice A n c, .int .i64 p] 27 (0, 0))) := Lib.hid (by rw [hW]; exact x0.out)
          have y1 : Hid (W.heap[w.heap.size + 1]? = some (Obj.cells #[.slice none 0 0, .int .i64 0] 27 (0, 0))) := Lib.hid (by rw [hW]; exact x1.out)
          have KC := Lib.hid (clone_byte A k c (d.take k) W (((HH.out.cutTo hk).later (Nat.le_refl _) HBW.out).more HBW.out.size) (by omega))
          rw [hW] at KC
          have HW := Lib.hid hW
          clear hb1 hW
          have e9 : ((k : Int)).toNat = k := by omega
          go_wp2_with fail
          (with_reducible refine KC.out.mono ?_)
          rw [← HW.out]
          rintro e w3 ⟨A3, c3, rfl, ho3, hb3⟩
          have r0 := (hb3.block w.heap.size (row_lt y0.out)).trans y0.out
          have r1 := (hb3.block (w.heap.size + 1) (row_lt y1.out)).trans y1.out
          have HB3 := Lib.hid (HBW.out.trans (hb3.mono HBW.out.size) : Below w.heap.size w w3)
          have HO3 := Lib.hid (own_more ho3 (by have := row_lt y1.out; omega) : w3.ownsRow (w.heap.size + 2) 5 1 (.slice A3 k c3) k (bys (d.take k)))
          have c0 := cell_of_row _ _ 0 _ _ _ r0
          have c1' := cell_of_row _ _ 1 _ _ _ r0
          have d0 := cell_of_row _ _ 0 _ _ _ r1
          have d1 := cell_of_row _ _ 1 _ _ _ r1
          have f0 := frozen_of_row _ _ 0 _ _ r0
          have l0 := row_lt r0
          have g0 := frozen_of_row _ _ 0 _ _ r1
          have g1 := frozen_of_row _ _ 1 _ _ r1
          have l1 := row_lt r1
          clear hb3 ho3 hc hf
          go_wp2_with fail
          refine bodyPost_ret (v := .tuple #[.agg #[.slice A3 k c3, .int .i64 p], .int .i64 0]) (by simp [results, Try.results28, go_sem, c0, c1', d0, d1]) rfl ?_
          exact HR.out ▸ end_sto HO3.out HB3.out HL.out _ _ _
end Go.Proofs.Ytbkicepkkcambaa
