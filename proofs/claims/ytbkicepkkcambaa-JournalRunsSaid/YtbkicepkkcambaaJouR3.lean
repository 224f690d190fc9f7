/- The reference: Cut. -/
import Derived.Test.YtbkicepkkcambaaJouR2
namespace Go.Proofs.Ytbkicepkkcambaa
open Go.RowKit BigFrame Go.Shelf
set_option linter.unusedVariables false
set_option linter.unusedSimpArgs false

set_option maxRecDepth 100000 in
set_option maxHeartbeats 2000000 in
theorem refcut_any (A : Option Addr) (n c : Nat) (p k0 : Int) (d : Bytes) (w : World) (h : Bys w w.heap.size A n d) (hn : n ≤ 10000000000) (hnc : n ≤ c) (hc63 : c ≤ 9223372036854775807) (hp : p ≤ 9223372036854775807) :
    Calls Try.prog 33 #[.agg #[.slice A n c, .int .i64 p], .int .i64 k0] w (GivesSto w (cutR ⟨d, p⟩ k0)) := by
  cases hv : stoOk ⟨d, p⟩ with
  | false =>
    have HR := Lib.hid (show (Sto.zero, (2 : Int)) = cutR ⟨d, p⟩ k0 by unfold cutR; rw [if_pos (.inl hv)])
    have HV := Lib.hid hv
    have HH := Lib.hid h
    clear hv h
    go_enter Try.func33, Try.ntmps33
    go_wp2_with fail
    refine (refvalid_any A n c p d _ (HH.out.to (by go_grown)) (by omega)).mono ?_
    rintro e w1 ⟨rfl, hb1⟩
    rw [HV.out]
    obtain ⟨hc, hf⟩ := bcell hb1
    have hz : w.heap.size + 1 < w1.heap.size := by have := hb1.size; simp at this; omega
    have HB1 := Lib.hid (Below.trans (by go_grown) (hb1.mono (by first | omega | (simp; done) | (simp; omega))) : Below w.heap.size w w1)
    go_wp2_with fail
    refine bodyPost_ret (v := .tuple #[.agg #[.slice none 0 0, .int .i64 0], .int .i64 2]) (by simp [results, Try.results33, go_sem, hc, hf, hz]) rfl ?_
    exact HR.out ▸ gives_zero 2 (((Below.trans (by go_grown) (hb1.mono (by simp; omega))).setCell (by simp) _).setCell (by simp) _)
  | true =>
    have hp0 : -1 ≤ p := by
      unfold stoOk at hv
      simp at hv
      exact hv.2
    by_cases h1 : k0 < 0
    · have HR := Lib.hid (show (Sto.zero, (2 : Int)) = cutR ⟨d, p⟩ k0 by unfold cutR; rw [if_pos (.inr (.inl h1))])
      have HV := Lib.hid hv
      have HH := Lib.hid h
      clear hv h
      go_enter Try.func33, Try.ntmps33
      go_wp2_with fail
      refine (refvalid_any A n c p d _ (HH.out.to (by go_grown)) (by omega)).mono ?_
      rintro e w1 ⟨rfl, hb1⟩
      rw [HV.out]
      obtain ⟨hc, hf⟩ := bcell hb1
      have hz : w.heap.size + 1 < w1.heap.size := by have := hb1.size; simp at this; omega
      have HB1 := Lib.hid (Below.trans (by go_grown) (hb1.mono (by first | omega | (simp; done) | (simp; omega))) : Below w.heap.size w w1)
      go_wp2_with fail
      refine bodyPost_ret (v := .tuple #[.agg #[.slice none 0 0, .int .i64 0], .int .i64 2]) (by simp [results, Try.results33, go_sem, hc, hf, hz]) rfl ?_
      exact HR.out ▸ gives_zero 2 (((Below.trans (by go_grown) (hb1.mono (by simp; omega))).setCell (by simp) _).setCell (by simp) _)
    · by_cases h2 : (n : Int) < k0
      · have HR := Lib.hid (show (Sto.zero, (2 : Int)) = cutR ⟨d, p⟩ k0 by unfold cutR; rw [if_pos (.inr (.inr (by rw [h.len]; exact h2)))])
        have HV := Lib.hid hv
        have HH := Lib.hid h
        clear hv h
        go_enter Try.func33, Try.ntmps33
        go_wp2_with fail
        refine (refvalid_any A n c p d _ (HH.out.to (by go_grown)) (by omega)).mono ?_
        rintro e w1 ⟨rfl, hb1⟩
        rw [HV.out]
        obtain ⟨hc, hf⟩ := bcell hb1
        have hz : w.heap.size + 1 < w1.heap.size := by have := hb1.size; simp at this; omega
        have HB1 := Lib.hid (Below.trans (by go_grown) (hb1.mono (by first | omega | (simp; done) | (simp; omega))) : Below w.heap.size w w1)
        go_wp2_with fail
        refine bodyPost_ret (v := .tuple #[.agg #[.slice none 0 0, .int .i64 0], .int .i64 2]) (by simp [results, Try.results33, go_sem, hc, hf, hz]) rfl ?_
        exact HR.out ▸ gives_zero 2 (((Below.trans (by go_grown) (hb1.mono (by simp; omega))).setCell (by simp) _).setCell (by simp) _)
      · obtain ⟨k, rfl⟩ : ∃ k : Nat, k0 = k := ⟨k0.toNat, by omega⟩
        have hk : k ≤ n := by omega
        have HL := Lib.hid (show (d.take k).length = k by rw [List.length_take, h.len]; omega)
        by_cases h3 : k < n
        · have i3 : (k : Int) < n := by omega
          by_cases h4 : p = 0
          · have h4' : (p == 0) = true := by simpa using h4
            have HR := Lib.hid (show (Sto.zero, (370 : Int)) = cutR ⟨d, p⟩ k by unfold cutR; rw [if_neg (by simp [hv, h.len]; omega), if_pos ⟨by rw [h.len]; exact i3, h4⟩])
            clear h4
            have HV := Lib.hid hv
            have HH := Lib.hid h
            clear hv h
            go_enter Try.func33, Try.ntmps33
            go_wp2_with fail
            refine (refvalid_any A n c p d _ (HH.out.to (by go_grown)) (by omega)).mono ?_
            rintro e w1 ⟨rfl, hb1⟩
            rw [HV.out]
            obtain ⟨hc, hf⟩ := bcell hb1
            have hz : w.heap.size + 1 < w1.heap.size := by have := hb1.size; simp at this; omega
            have HB1 := Lib.hid (Below.trans (by go_grown) (hb1.mono (by first | omega | (simp; done) | (simp; omega))) : Below w.heap.size w w1)
            go_wp2_with fail
            refine bodyPost_ret (v := .tuple #[.agg #[.slice none 0 0, .int .i64 0], .int .i64 370]) (by simp [results, Try.results33, go_sem, hc, hf, hz]) rfl ?_
            exact HR.out ▸ gives_zero 370 (((Below.trans (by go_grown) (hb1.mono (by simp; omega))).setCell (by simp) _).setCell (by simp) _)
          · have h4' : (p == 0) = false := by simpa using h4
            by_cases h5 : 0 < p
            · have HR := Lib.hid (show ((⟨d.take k, p - 1⟩ : Sto), (0 : Int)) = cutR ⟨d, p⟩ k by unfold cutR; rw [if_neg (by simp [hv, h.len]; omega), if_neg (by simp [h4]), if_pos ⟨by rw [h.len]; exact i3, h5⟩]; rfl)
              have HV := Lib.hid hv
              have HH := Lib.hid h
              clear hv h
              go_enter Try.func33, Try.ntmps33
              go_wp2_with fail
              refine (refvalid_any A n c p d _ (HH.out.to (by go_grown)) (by omega)).mono ?_
              rintro e w1 ⟨rfl, hb1⟩
              rw [HV.out]
              obtain ⟨hc, hf⟩ := bcell hb1
              have hz : w.heap.size + 1 < w1.heap.size := by have := hb1.size; simp at this; omega
              have HB1 := Lib.hid (Below.trans (by go_grown) (hb1.mono (by first | omega | (simp; done) | (simp; omega))) : Below w.heap.size w w1)
              have x0 := Lib.hid ((hb1.block w.heap.size (by first | omega | (simp; done) | (simp; omega))).trans (show _ = some (Obj.cells #[.slice A n c, .int .i64 p] 30 (0, 0)) from (by (try rw [get_drew]); simp only [get_alloc, get_set, World.size_alloc, World.size_setCell]; simp [Nat.add_assoc])))
              have x1 := Lib.hid ((hb1.block (w.heap.size + 1) (by first | omega | (simp; done) | (simp; omega))).trans (show _ = some (Obj.cells #[.slice none 0 0, .int .i64 0] 30 (0, 0)) from (by (try rw [get_drew]); simp only [get_alloc, get_set, World.size_alloc, World.size_setCell]; simp [Nat.add_assoc])))
              have e9 : ((k : Int)).toNat = k := by omega
              go_upto_region 8 with (fail)
              obtain ⟨W, hW⟩ : ∃ W, W = (w1.setCell ⟨w.heap.size, 1, none⟩ (.int .i64 (p - 1))) := ⟨_, rfl⟩
              have HBW : Hid (Below w.heap.size w W) := Lib.hid (by rw [hW]; exact HB1.out.setCell (by simp) _)
              have y0 : W.heap[w.heap.size]? = some (Obj.cells #[.slice A n c, .int .i64 (p - 1)] 30 (0, 0)) := by rw [hW]; rw [get_set, if_pos rfl, x0.out]; rfl
              have y1 : W.heap[w.heap.size + 1]? = some (Obj.cells #[.slice none 0 0, .int .i64 0] 30 (0, 0)) := by rw [hW]; rw [get_set, if_neg (by omega), x1.out]
              rw [← hW]
              have hWs := HBW.out.size
              have HKB := Lib.hid (((HH.out.cutTo hk).later (Nat.le_refl _) HBW.out).more hWs)
              have e0 := cell_of_row _ _ 0 _ _ _ y0
              have l0 := row_lt y0
              have Y0 := Lib.hid y0
              have Y1 := Lib.hid y1
              clear hb1 hW hc hf hz x0 x1 y0 y1
              go_wp2_with (at_builtin; refine elemByte.list_append rfl (.tmp 37) (.tmp 41) rfl rfl (World.ownsRow_lit (base := w.heap.size) (e := 5) (size := 1) W #[] 0 hWs (by unfold maxLen; omega) rfl) rfl (HKB.out.to (by go_grown)).reads (bys_one _) (by unfold maxLen; omega) (by omega) (by simp; omega) ?_; intro v3 w3 hown hg hat; simp only [Nat.zero_add, List.nil_append] at hown; obtain ⟨A3, c3, hv3, _⟩ := own_shape hown; subst hv3; clear hat; have hb3 : Below w.heap.size w w3 := lit_below hg HBW.out hWs; have r0 := (lit_block hg (row_lt Y0.out)).trans Y0.out; have r1 := (lit_block hg (row_lt Y1.out)).trans Y1.out; have e0 := cell_of_row _ _ 0 _ _ _ r0; have e1 := cell_of_row _ _ 1 _ _ _ r0; have f0 := frozen_of_row _ _ 0 _ _ r0; have f1 := frozen_of_row _ _ 1 _ _ r0; have l0 := row_lt r0; have d0 := cell_of_row _ _ 0 _ _ _ r1; have d1 := cell_of_row _ _ 1 _ _ _ r1; have g0 := frozen_of_row _ _ 0 _ _ r1; have g1 := frozen_of_row _ _ 1 _ _ r1; have l1 := row_lt r1; have R0 := Lib.hid r0; have R1 := Lib.hid r1; have HO := Lib.hid hown; have HB3 := Lib.hid hb3; clear r0 r1 hg hown hb3)
              refine bodyPost_ret (v := .tuple #[.agg #[.slice A3 k c3, .int .i64 (p - 1)], .int .i64 0]) (by simp [results, Try.results33, go_sem, e0, e1, d0, d1]) rfl ?_
              exact HR.out ▸ end_ref (own_set HO.out (fun k hk e => row_ne R0.out HO.out (by decide) (hk.trans (congrArg some e))) _) (HB3.out.setCell (by simp) _) HL.out (far_row R1.out (by simp) _) (by omega) _ _
            · have HR := Lib.hid (show ((⟨d.take k, p⟩ : Sto), (0 : Int)) = cutR ⟨d, p⟩ k by unfold cutR; rw [if_neg (by simp [hv, h.len]; omega), if_neg (by simp [h4]), if_neg (by simp [h5])]; rfl)
              have HV := Lib.hid hv
              have HH := Lib.hid h
              clear hv h
              go_enter Try.func33, Try.ntmps33
              go_wp2_with fail
              refine (refvalid_any A n c p d _ (HH.out.to (by go_grown)) (by omega)).mono ?_
              rintro e w1 ⟨rfl, hb1⟩
              rw [HV.out]
              obtain ⟨hc, hf⟩ := bcell hb1
              have hz : w.heap.size + 1 < w1.heap.size := by have := hb1.size; simp at this; omega
              have HB1 := Lib.hid (Below.trans (by go_grown) (hb1.mono (by first | omega | (simp; done) | (simp; omega))) : Below w.heap.size w w1)
              have x0 := Lib.hid ((hb1.block w.heap.size (by first | omega | (simp; done) | (simp; omega))).trans (show _ = some (Obj.cells #[.slice A n c, .int .i64 p] 30 (0, 0)) from (by (try rw [get_drew]); simp only [get_alloc, get_set, World.size_alloc, World.size_setCell]; simp [Nat.add_assoc])))
              have x1 := Lib.hid ((hb1.block (w.heap.size + 1) (by first | omega | (simp; done) | (simp; omega))).trans (show _ = some (Obj.cells #[.slice none 0 0, .int .i64 0] 30 (0, 0)) from (by (try rw [get_drew]); simp only [get_alloc, get_set, World.size_alloc, World.size_setCell]; simp [Nat.add_assoc])))
              have e9 : ((k : Int)).toNat = k := by omega
              go_upto_region 8 with (fail)
              obtain ⟨W, hW⟩ : ∃ W, W = w1 := ⟨_, rfl⟩
              have HBW : Hid (Below w.heap.size w W) := Lib.hid (by rw [hW]; exact HB1.out)
              have y0 : W.heap[w.heap.size]? = some (Obj.cells #[.slice A n c, .int .i64 p] 30 (0, 0)) := by rw [hW]; exact x0.out
              have y1 : W.heap[w.heap.size + 1]? = some (Obj.cells #[.slice none 0 0, .int .i64 0] 30 (0, 0)) := by rw [hW]; exact x1.out
              rw [← hW]
              have hWs := HBW.out.size
              have HKB := Lib.hid (((HH.out.cutTo hk).later (Nat.le_refl _) HBW.out).more hWs)
              have e0 := cell_of_row _ _ 0 _ _ _ y0
              have l0 := row_lt y0
              have Y0 := Lib.hid y0
              have Y1 := Lib.hid y1
              clear hb1 hW hc hf hz x0 x1 y0 y1
              go_wp2_with (at_builtin; refine elemByte.list_append rfl (.tmp 37) (.tmp 41) rfl rfl (World.ownsRow_lit (base := w.heap.size) (e := 5) (size := 1) W #[] 0 hWs (by unfold maxLen; omega) rfl) rfl (HKB.out.to (by go_grown)).reads (bys_one _) (by unfold maxLen; omega) (by omega) (by simp; omega) ?_; intro v3 w3 hown hg hat; simp only [Nat.zero_add, List.nil_append] at hown; obtain ⟨A3, c3, hv3, _⟩ := own_shape hown; subst hv3; clear hat; have hb3 : Below w.heap.size w w3 := lit_below hg HBW.out hWs; have r0 := (lit_block hg (row_lt Y0.out)).trans Y0.out; have r1 := (lit_block hg (row_lt Y1.out)).trans Y1.out; have e0 := cell_of_row _ _ 0 _ _ _ r0; have e1 := cell_of_row _ _ 1 _ _ _ r0; have f0 := frozen_of_row _ _ 0 _ _ r0; have f1 := frozen_of_row _ _ 1 _ _ r0; have l0 := row_lt r0; have d0 := cell_of_row _ _ 0 _ _ _ r1; have d1 := cell_of_row _ _ 1 _ _ _ r1; have g0 := frozen_of_row _ _ 0 _ _ r1; have g1 := frozen_of_row _ _ 1 _ _ r1; have l1 := row_lt r1; have R0 := Lib.hid r0; have R1 := Lib.hid r1; have HO := Lib.hid hown; have HB3 := Lib.hid hb3; clear r0 r1 hg hown hb3)
              refine bodyPost_ret (v := .tuple #[.agg #[.slice A3 k c3, .int .i64 p], .int .i64 0]) (by simp [results, Try.results33, go_sem, e0, e1, d0, d1]) rfl ?_
              exact HR.out ▸ end_ref (own_set HO.out (fun k hk e => row_ne R0.out HO.out (by decide) (hk.trans (congrArg some e))) _) (HB3.out.setCell (by simp) _) HL.out (far_row R1.out (by simp) _) (by omega) _ _
        · have i3 : ¬ (k : Int) < n := by omega
          have HR := Lib.hid (show ((⟨d.take k, p⟩ : Sto), (0 : Int)) = cutR ⟨d, p⟩ k by unfold cutR; rw [if_neg (by simp [hv, h.len]; omega), if_neg (by simp [h.len]; omega), if_neg (by simp [h.len]; omega)]; rfl)
          have HV := Lib.hid hv
          have HH := Lib.hid h
          clear hv h
          go_enter Try.func33, Try.ntmps33
          go_wp2_with fail
          refine (refvalid_any A n c p d _ (HH.out.to (by go_grown)) (by omega)).mono ?_
          rintro e w1 ⟨rfl, hb1⟩
          rw [HV.out]
          obtain ⟨hc, hf⟩ := bcell hb1
          have hz : w.heap.size + 1 < w1.heap.size := by have := hb1.size; simp at this; omega
          have HB1 := Lib.hid (Below.trans (by go_grown) (hb1.mono (by first | omega | (simp; done) | (simp; omega))) : Below w.heap.size w w1)
          have x0 := Lib.hid ((hb1.block w.heap.size (by first | omega | (simp; done) | (simp; omega))).trans (show _ = some (Obj.cells #[.slice A n c, .int .i64 p] 30 (0, 0)) from (by (try rw [get_drew]); simp only [get_alloc, get_set, World.size_alloc, World.size_setCell]; simp [Nat.add_assoc])))
          have x1 := Lib.hid ((hb1.block (w.heap.size + 1) (by first | omega | (simp; done) | (simp; omega))).trans (show _ = some (Obj.cells #[.slice none 0 0, .int .i64 0] 30 (0, 0)) from (by (try rw [get_drew]); simp only [get_alloc, get_set, World.size_alloc, World.size_setCell]; simp [Nat.add_assoc])))
          have e9 : ((k : Int)).toNat = k := by omega
          go_upto_region 8 with (fail)
          obtain ⟨W, hW⟩ : ∃ W, W = w1 := ⟨_, rfl⟩
          have HBW : Hid (Below w.heap.size w W) := Lib.hid (by rw [hW]; exact HB1.out)
          have y0 : W.heap[w.heap.size]? = some (Obj.cells #[.slice A n c, .int .i64 p] 30 (0, 0)) := by rw [hW]; exact x0.out
          have y1 : W.heap[w.heap.size + 1]? = some (Obj.cells #[.slice none 0 0, .int .i64 0] 30 (0, 0)) := by rw [hW]; exact x1.out
          rw [← hW]
          have hWs := HBW.out.size
          have HKB := Lib.hid (((HH.out.cutTo hk).later (Nat.le_refl _) HBW.out).more hWs)
          have e0 := cell_of_row _ _ 0 _ _ _ y0
          have l0 := row_lt y0
          have Y0 := Lib.hid y0
          have Y1 := Lib.hid y1
          clear hb1 hW hc hf hz x0 x1 y0 y1
          go_wp2_with (at_builtin; refine elemByte.list_append rfl (.tmp 37) (.tmp 41) rfl rfl (World.ownsRow_lit (base := w.heap.size) (e := 5) (size := 1) W #[] 0 hWs (by unfold maxLen; omega) rfl) rfl (HKB.out.to (by go_grown)).reads (bys_one _) (by unfold maxLen; omega) (by omega) (by simp; omega) ?_; intro v3 w3 hown hg hat; simp only [Nat.zero_add, List.nil_append] at hown; obtain ⟨A3, c3, hv3, _⟩ := own_shape hown; subst hv3; clear hat; have hb3 : Below w.heap.size w w3 := lit_below hg HBW.out hWs; have r0 := (lit_block hg (row_lt Y0.out)).trans Y0.out; have r1 := (lit_block hg (row_lt Y1.out)).trans Y1.out; have e0 := cell_of_row _ _ 0 _ _ _ r0; have e1 := cell_of_row _ _ 1 _ _ _ r0; have f0 := frozen_of_row _ _ 0 _ _ r0; have f1 := frozen_of_row _ _ 1 _ _ r0; have l0 := row_lt r0; have d0 := cell_of_row _ _ 0 _ _ _ r1; have d1 := cell_of_row _ _ 1 _ _ _ r1; have g0 := frozen_of_row _ _ 0 _ _ r1; have g1 := frozen_of_row _ _ 1 _ _ r1; have l1 := row_lt r1; have R0 := Lib.hid r0; have R1 := Lib.hid r1; have HO := Lib.hid hown; have HB3 := Lib.hid hb3; clear r0 r1 hg hown hb3)
          refine bodyPost_ret (v := .tuple #[.agg #[.slice A3 k c3, .int .i64 p], .int .i64 0]) (by simp [results, Try.results33, go_sem, e0, e1, d0, d1]) rfl ?_
          exact HR.out ▸ end_ref (own_set HO.out (fun k hk e => row_ne R0.out HO.out (by decide) (hk.trans (congrArg some e))) _) (HB3.out.setCell (by simp) _) HL.out (far_row R1.out (by simp) _) (by omega) _ _
end Go.Proofs.Ytbkicepkkcambaa
