/- The reference: Restore, Open. -/
import Derived.Test.YtbkicepkkcambaaJouR5
namespace Go.Proofs.Ytbkicepkkcambaa
open Go.RowKit BigFrame Go.Shelf
set_option linter.unusedVariables false
set_option linter.unusedSimpArgs false

set_option maxRecDepth 100000 in
set_option maxHeartbeats 2000000 in
theorem refrestore_any (A : Option Addr) (n c : Nat) (p k power : Int) (down : Bool) (d : Bytes) (w : World) (h : Bys w w.heap.size A n d) (hn : n ≤ 10000000000) (hnc : n ≤ c) (hc63 : c ≤ 9223372036854775807) :
    Calls Try.prog 11 #[.agg #[.slice A n c, .int .i64 p, .int .i64 k, .bool down], .int .i64 power] w (GivesSto w (restoreR ⟨d, p, k, down⟩ power)) := by
  cases hv : rightB ⟨d, p, k, down⟩ with
  | false =>
    have HR := Lib.hid (show (Sto.zero, (2 : Int)) = restoreR ⟨d, p, k, down⟩ power by unfold restoreR; rw [if_pos (.inl hv)])
    have HV := Lib.hid hv
    have HH := Lib.hid h
    clear hv h
    go_enter Try.func11, Try.ntmps11
    go_wp2_with fail
    refine (refright_any A n c p k down d _ (HH.out.to (by go_grown)) (by omega) hnc hc63).mono ?_
    rintro e w1 ⟨rfl, hb1⟩
    rw [HV.out]
    obtain ⟨hc, hf⟩ := bcell hb1
    have hz : w.heap.size + 1 < w1.heap.size := by have := hb1.size; simp at this; omega
    have HB1 := Lib.hid (Below.trans (by go_grown) (hb1.mono (by first | omega | (simp; done) | (simp; omega))) : Below w.heap.size w w1)
    go_wp2_with fail
    refine bodyPost_ret (v := .tuple #[.agg #[.slice none 0 0, .int .i64 0], .int .i64 2]) (by simp [results, Try.results11, go_sem, hc, hf, hz]) rfl ?_
    exact HR.out ▸ gives_zero 2 ((HB1.out.setCell (by simp) _).setCell (by simp) _)
  | true =>
    by_cases h1 : power < -1
    · have HR := Lib.hid (show (Sto.zero, (2 : Int)) = restoreR ⟨d, p, k, down⟩ power by unfold restoreR; rw [if_pos (.inr h1)])
      have HV := Lib.hid hv
      have HH := Lib.hid h
      clear hv h
      go_enter Try.func11, Try.ntmps11
      go_wp2_with fail
      refine (refright_any A n c p k down d _ (HH.out.to (by go_grown)) (by omega) hnc hc63).mono ?_
      rintro e w1 ⟨rfl, hb1⟩
      rw [HV.out]
      obtain ⟨hc, hf⟩ := bcell hb1
      have hz : w.heap.size + 1 < w1.heap.size := by have := hb1.size; simp at this; omega
      have HB1 := Lib.hid (Below.trans (by go_grown) (hb1.mono (by first | omega | (simp; done) | (simp; omega))) : Below w.heap.size w w1)
      go_wp2_with fail
      refine bodyPost_ret (v := .tuple #[.agg #[.slice none 0 0, .int .i64 0], .int .i64 2]) (by simp [results, Try.results11, go_sem, hc, hf, hz]) rfl ?_
      exact HR.out ▸ gives_zero 2 ((HB1.out.setCell (by simp) _).setCell (by simp) _)
    · have HR := Lib.hid (show ((⟨d, power⟩ : Sto), (0 : Int)) = restoreR ⟨d, p, k, down⟩ power by unfold restoreR; rw [if_neg (by simp [hv]; omega)])
      have HL := Lib.hid h.len
      have HV := Lib.hid hv
      have HH := Lib.hid h
      clear hv h
      go_enter Try.func11, Try.ntmps11
      go_wp2_with fail
      refine (refright_any A n c p k down d _ (HH.out.to (by go_grown)) (by omega) hnc hc63).mono ?_
      rintro e w1 ⟨rfl, hb1⟩
      rw [HV.out]
      obtain ⟨hc, hf⟩ := bcell hb1
      have hz : w.heap.size + 1 < w1.heap.size := by have := hb1.size; simp at this; omega
      have HB1 := Lib.hid (Below.trans (by go_grown) (hb1.mono (by first | omega | (simp; done) | (simp; omega))) : Below w.heap.size w w1)
      have y0 := (hb1.block w.heap.size (by first | omega | (simp; done) | (simp; omega))).trans (show _ = some (Obj.cells #[.slice A n c, .int .i64 p, .int .i64 k, .bool down] 32 (0, 0)) from (by (try rw [get_drew]); simp only [get_alloc, get_set, World.size_alloc, World.size_setCell]; simp [Nat.add_assoc]))
      have y1 := (hb1.block (w.heap.size + 1) (by first | omega | (simp; done) | (simp; omega))).trans (show _ = some (Obj.cells #[.slice none 0 0, .int .i64 0] 30 (0, 0)) from (by (try rw [get_drew]); simp only [get_alloc, get_set, World.size_alloc, World.size_setCell]; simp [Nat.add_assoc]))
      have hWs := HB1.out.size
      have HKB := Lib.hid ((HH.out.later (Nat.le_refl _) HB1.out).more hWs)
      have e0 := cell_of_row _ _ 0 _ _ _ y0
      have l0 := row_lt y0
      have Y0 := Lib.hid y0
      have Y1 := Lib.hid y1
      clear hb1 hc hf hz y0 y1
      go_wp2_with (at_builtin; refine elemByte.list_append rfl (.tmp 14) (.tmp 17) rfl rfl (World.ownsRow_lit (base := w.heap.size) (e := 5) (size := 1) w1 #[] 0 hWs (by unfold maxLen; omega) rfl) rfl (HKB.out.reads.alloc (Nat.le_refl _) _) (bys_one _) (by unfold maxLen; omega) (by omega) (by simp; omega) ?_; intro v3 w3 hown hg hat; simp only [Nat.zero_add, List.nil_append] at hown; obtain ⟨A3, c3, hv3, _⟩ := own_shape hown; subst hv3; clear hat; have hb3 : Below w.heap.size w w3 := lit_below hg HB1.out hWs; have r1 := (lit_block hg (row_lt Y1.out)).trans Y1.out; have d0 := cell_of_row _ _ 0 _ _ _ r1; have d1 := cell_of_row _ _ 1 _ _ _ r1; have g0 := frozen_of_row _ _ 0 _ _ r1; have g1 := frozen_of_row _ _ 1 _ _ r1; have l1 := row_lt r1; have R1 := Lib.hid r1; have HO := Lib.hid hown; have HB3 := Lib.hid hb3; clear r1 hg hown hb3)
      refine bodyPost_ret (v := .tuple #[.agg #[.slice A3 n c3, .int .i64 power], .int .i64 0]) (by simp [results, Try.results11, go_sem, d0, d1]) rfl ?_
      exact HR.out ▸ end_ref HO.out HB3.out HL.out R1.out (by omega) _ _

/-- A log is handed back, with payloads. -/
theorem end_log {w wY : World} {b : Nat} {cs : Array Value} {r : Lg × List Bytes × Int} {A A' : Option Addr} {c c' : Nat} {vs : List Value} (h : wY.ownsRow w.heap.size 5 1 (.slice A r.1.data.length c) r.1.data.length (bys r.1.data)) (h' : wY.ownsRow w.heap.size 25 1 (.slice A' r.2.1.length c') r.2.1.length vs)
    (ht : OwnTexts wY w.heap.size vs r.2.1) (hB : Below w.heap.size w wY) (hr : wY.heap[b]? = some (.cells cs 32 (0, 0))) (hb : w.heap.size ≤ b) (u0 u1 u2 u3 : Value) :
    GivesLog w r (.returned (.tuple #[.agg #[.slice A r.1.data.length c, .int .i64 r.1.power, .int .i64 r.1.count, .bool r.1.down], .slice A' r.2.1.length c', .int .i64 r.2.2])) ((((wY.setCell ⟨b, 0, none⟩ u0).setCell ⟨b, 1, none⟩ u1).setCell ⟨b, 2, none⟩ u2).setCell ⟨b, 3, none⟩ u3) := by
  have m : ∀ (e : TypeId) (v : Value) (n : Nat) (xs : List Value), e ≠ 32 → wY.ownsRow w.heap.size e 1 v n xs → World.ownsRow ((((wY.setCell ⟨b, 0, none⟩ u0).setCell ⟨b, 1, none⟩ u1).setCell ⟨b, 2, none⟩ u2).setCell ⟨b, 3, none⟩ u3) w.heap.size e 1 v n xs := fun e v n xs he ho => by
    have hne : ∀ k, v.ownBlock = some k → k ≠ b := fun k hk e' => row_ne hr ho he (hk.trans (congrArg some e'))
    exact own_set (own_set (own_set (own_set ho hne _) hne _) hne _) hne _
  exact ⟨A, c, A', c', vs, rfl, m _ _ _ _ (by decide) h, m _ _ _ _ (by decide) h', ht.map fun v n xs => m 5 v n xs (by decide), (((hB.setCell hb _).setCell hb _).setCell hb _).setCell hb _⟩
set_option maxRecDepth 100000 in
set_option maxHeartbeats 4000000 in
theorem refopen_any (A : Option Addr) (n c : Nat) (p : Int) (d : Bytes) (w : World) (h : Bys w w.heap.size A n d) (hn : n ≤ 10000000000) (hnc : n ≤ c) (hc63 : c ≤ 9223372036854775807) (hp : p ≤ 9223372036854775807) :
    Calls Try.prog 15 #[.agg #[.slice A n c, .int .i64 p]] w (GivesLog w (openR ⟨d, p⟩)) := by
  have hO : openR ⟨d, p⟩ = if (cutR ⟨d, p⟩ (sizes (scan d))).2 ≠ 0 then (Lg.zero, [], (cutR ⟨d, p⟩ (sizes (scan d))).2) else (⟨(cutR ⟨d, p⟩ (sizes (scan d))).1.data, (cutR ⟨d, p⟩ (sizes (scan d))).1.power, (scan d).length, false⟩, scan d, 0) := rfl
  have HV0 := Lib.hid (fun W (hW : Below w.heap.size w W) => refvalid_any A n c p d W (h.to hW) (by omega))
  have KS := Lib.hid (fun W hW => refscan_any A n c d W (h.to hW) (by omega) hnc hc63)
  have KC := Lib.hid (fun W k hW => refcut_any A n c p k d W (h.to hW) hn hnc hc63 hp)
  have hO' := Lib.hid hO
  clear h hO
  cases hv : stoOk ⟨d, p⟩ with
  | false =>
    have HR := Lib.hid (show (Lg.zero, ([] : List Bytes), (2 : Int)) = openR ⟨d, p⟩ by
      have hcut : cutR ⟨d, p⟩ (sizes (scan d)) = (Sto.zero, 2) := by unfold cutR; rw [if_pos (.inl hv)]
      rw [hO'.out, hcut, if_pos (by decide)])
    have HV := Lib.hid hv
    clear hv KS KC
    go_enter Try.func15, Try.ntmps15
    go_wp2_with fail
    refine (HV0.out _ (by go_grown)).mono ?_
    rintro e w1 ⟨rfl, hb1⟩
    rw [HV.out]
    have r1 := (hb1.block (w.heap.size + 1) (by first | omega | (simp; done) | (simp; omega))).trans (show _ = some (Obj.cells #[.slice none 0 0, .int .i64 0, .int .i64 0, .bool false] 32 (0, 0)) from (by (try rw [get_drew]); simp only [get_alloc, get_set, World.size_alloc, World.size_setCell]; simp [Nat.add_assoc]))
    have HB1 := Lib.hid (Below.trans (by go_grown) (hb1.mono (by first | omega | (simp; done) | (simp; omega))) : Below w.heap.size w w1)
    have d0 := cell_of_row _ _ 0 _ _ _ r1
    have d1 := cell_of_row _ _ 1 _ _ _ r1
    have d2 := cell_of_row _ _ 2 _ _ _ r1
    have d3 := cell_of_row _ _ 3 _ _ _ r1
    have g0 := frozen_of_row _ _ 0 _ _ r1
    have g1 := frozen_of_row _ _ 1 _ _ r1
    have g2 := frozen_of_row _ _ 2 _ _ r1
    have g3 := frozen_of_row _ _ 3 _ _ r1
    have l1 := row_lt r1
    have R1 := Lib.hid r1
    clear r1 hb1
    go_wp2_with fail
    refine bodyPost_ret (v := .tuple #[.agg #[.slice none 0 0, .int .i64 0, .int .i64 0, .bool false], .slice none 0 0, .int .i64 2]) (by simp [results, Try.results15, go_sem, d0, d1, d2, d3]) rfl ?_
    exact HR.out ▸ end_log (r := (Lg.zero, [], 2)) (World.ownsRow_nil _ _ _ _) (World.ownsRow_nil _ _ _ _) trivial HB1.out R1.out (by omega) _ _ _ _
  | true =>
    have HV := Lib.hid hv
    clear hv
    obtain ⟨r, hr⟩ : ∃ r, cutR ⟨d, p⟩ ((sizes (scan d) : Nat) : Int) = r := ⟨_, rfl⟩
    rw [hr] at hO'
    have HR := Lib.hid hr
    clear hr
    go_enter Try.func15, Try.ntmps15
    go_wp2_with fail
    refine (HV0.out _ (by go_grown)).mono ?_
    rintro e w1 ⟨rfl, hb1⟩
    rw [HV.out]
    have r0 := (hb1.block w.heap.size (by first | omega | (simp; done) | (simp; omega))).trans (show _ = some (Obj.cells #[.slice A n c, .int .i64 p] 30 (0, 0)) from (by (try rw [get_drew]); simp only [get_alloc, get_set, World.size_alloc, World.size_setCell]; simp [Nat.add_assoc]))
    have r1 := (hb1.block (w.heap.size + 1) (by first | omega | (simp; done) | (simp; omega))).trans (show _ = some (Obj.cells #[.slice none 0 0, .int .i64 0, .int .i64 0, .bool false] 32 (0, 0)) from (by (try rw [get_drew]); simp only [get_alloc, get_set, World.size_alloc, World.size_setCell]; simp [Nat.add_assoc]))
    have HB1 := Lib.hid (Below.trans (by go_grown) (hb1.mono (by first | omega | (simp; done) | (simp; omega))) : Below w.heap.size w w1)
    have e0 := cell_of_row _ _ 0 _ _ _ r0
    have e1 := cell_of_row _ _ 1 _ _ _ r0
    have R0 := Lib.hid r0
    have R1 := Lib.hid r1
    clear r0 r1 hb1
    go_wp2_with fail
    (with_reducible refine (KS.out _ HB1.out).mono ?_)
    rintro e w2 ⟨A1, c1, vs, rfl, ho1, ht1, hb2⟩
    have r0 := (hb2.block w.heap.size (row_lt R0.out)).trans R0.out
    have r1 := (hb2.block (w.heap.size + 1) (row_lt R1.out)).trans R1.out
    have HB2 := Lib.hid (HB1.out.trans (hb2.mono HB1.out.size) : Below w.heap.size w w2)
    have HO1 := Lib.hid (own_more ho1 HB1.out.size : w2.ownsRow w.heap.size 25 1 (.slice A1 (scan d).length c1) (scan d).length vs)
    have HT1 := Lib.hid (ht1.more HB1.out.size : OwnTexts w2 w.heap.size vs (scan d))
    have e0 := cell_of_row _ _ 0 _ _ _ r0
    have e1 := cell_of_row _ _ 1 _ _ _ r0
    have Q1 := Lib.hid r1
    clear r0 r1 hb2 ho1 ht1 R0 R1
    have KC1 := Lib.hid (KC.out w2 ((sizes (scan d) : Nat) : Int) HB2.out)
    rw [HR.out] at KC1
    go_wp2_with fail
    (with_reducible refine KC1.out.mono ?_)
    rintro e w3 ⟨A2, c2, rfl, ho2, hb3⟩
    have r1 := (hb3.block (w.heap.size + 1) (row_lt Q1.out)).trans Q1.out
    have HB3 := Lib.hid (HB2.out.trans (hb3.mono HB2.out.size) : Below w.heap.size w w3)
    have HO2 := Lib.hid (own_more ho2 HB2.out.size : w3.ownsRow w.heap.size 5 1 (.slice A2 r.1.data.length c2) r.1.data.length (bys r.1.data))
    have HO3 := Lib.hid (own_kept HO1.out hb3 (Nat.le_refl _))
    have HT3 := Lib.hid (HT1.out.map fun v n xs h => own_kept h hb3 (Nat.le_refl _))
    have P1 := Lib.hid r1
    have hs3 := HB3.out.size
    have hs4 := row_lt r1
    clear r1 hb3 ho2 HO1 HT1 Q1 e0 e1
    go_upto_region 5 with (fail)
    generalize hwY : World.alloc w3 _ = wY
    have yT : wY.heap[w3.heap.size]? = some (.cells #[.slice A2 r.1.data.length c2, .int .i64 r.1.power] 30 (0, 0)) := by rw [← hwY]; exact heap_at rfl
    have y1 : wY.heap[w.heap.size + 1]? = some (Obj.cells #[.slice none 0 0, .int .i64 0, .int .i64 0, .bool false] 32 (0, 0)) := by rw [← hwY]; exact (Below.heap_alloc _ _ _ hs4).trans P1.out
    have HBY : Hid (Below w.heap.size w wY) := Lib.hid (by rw [← hwY]; exact HB3.out.alloc hs3 _)
    have mY : ∀ (e : TypeId) (v : Value) (n : Nat) (xs : List Value), w3.ownsRow w.heap.size e 1 v n xs → wY.ownsRow w.heap.size e 1 v n xs := fun e v n xs ho => by
      rw [← hwY]
      exact ho.alloc _
    have HO4 := Lib.hid (mY _ _ _ _ HO2.out)
    have HO5 := Lib.hid (mY _ _ _ _ HO3.out)
    have HT5 := Lib.hid (HT3.out.map (mY 5))
    have t0 := cell_of_row _ _ 0 _ _ _ yT
    have t1 := cell_of_row _ _ 1 _ _ _ yT
    have d0 := cell_of_row _ _ 0 _ _ _ y1
    have d1 := cell_of_row _ _ 1 _ _ _ y1
    have d2 := cell_of_row _ _ 2 _ _ _ y1
    have d3 := cell_of_row _ _ 3 _ _ _ y1
    have g0 := frozen_of_row _ _ 0 _ _ y1
    have g1 := frozen_of_row _ _ 1 _ _ y1
    have g2 := frozen_of_row _ _ 2 _ _ y1
    have g3 := frozen_of_row _ _ 3 _ _ y1
    have l1 := row_lt y1
    have Y1 := Lib.hid y1
    clear hwY yT y1 mY HO2 HO3 HT3
    obtain ⟨⟨D, P⟩, E⟩ := r
    dsimp only at *
    by_cases hE : E = 0
    · have i1 : (E == 0) = true := by simpa using hE
      have i2 : (E != 0) = false := by simpa using hE
      have HR2 := Lib.hid (show ((⟨D, P, (scan d).length, false⟩ : Lg), scan d, (0 : Int)) = openR ⟨d, p⟩ by rw [hO'.out, if_neg (by simp [hE])])
      clear hE
      go_wp2_with fail
      refine bodyPost_ret (v := .tuple #[.agg #[.slice A2 D.length c2, .int .i64 P, .int .i64 (scan d).length, .bool false], .slice A1 (scan d).length c1, .int .i64 0]) (by simp [results, Try.results15, go_sem, d0, d1, d2, d3]) rfl ?_
      exact HR2.out ▸ end_log (r := (⟨D, P, (scan d).length, false⟩, scan d, 0)) HO4.out HO5.out HT5.out HBY.out Y1.out (by omega) _ _ _ _
    · have i1 : (E == 0) = false := by simpa using hE
      have i2 : (E != 0) = true := by simpa using hE
      have HR2 := Lib.hid (show (Lg.zero, ([] : List Bytes), E) = openR ⟨d, p⟩ by rw [hO'.out, if_pos (by simpa using hE)])
      clear hE
      go_wp2_with fail
      refine bodyPost_ret (v := .tuple #[.agg #[.slice none 0 0, .int .i64 0, .int .i64 0, .bool false], .slice none 0 0, .int .i64 E]) (by simp [results, Try.results15, go_sem, d0, d1, d2, d3]) rfl ?_
      exact HR2.out ▸ end_log (r := (Lg.zero, [], E)) (World.ownsRow_nil _ _ _ _) (World.ownsRow_nil _ _ _ _) trivial HBY.out Y1.out (by omega) _ _ _ _
end Go.Proofs.Ytbkicepkkcambaa
