/- Open. -/
import Derived.Test.YtbkicepkkcambaaJouL
namespace Go.Proofs.Ytbkicepkkcambaa
open Go.RowKit BigFrame Go.Shelf
set_option linter.unusedVariables false
set_option linter.unusedSimpArgs false

/-- A call that hands back a log, payloads and an error. -/
def GivesLog (w : World) (r : Lg × List Bytes × Int) (e : Ending) (w' : World) : Prop :=
  ∃ A c A' c' vs, e = .returned (.tuple #[.agg #[.slice A r.1.data.length c, .int .i64 r.1.power, .int .i64 r.1.count, .bool r.1.down], .slice A' r.2.1.length c', .int .i64 r.2.2]) ∧
    w'.ownsRow w.heap.size 5 1 (.slice A r.1.data.length c) r.1.data.length (bys r.1.data) ∧ w'.ownsRow w.heap.size 25 1 (.slice A' r.2.1.length c') r.2.1.length vs ∧ OwnTexts w' w.heap.size vs r.2.1 ∧ Below w.heap.size w w'
theorem OwnTexts.more {w : World} {base base' : Nat} {vs : List Value} {l : List Bytes} (h : OwnTexts w base vs l) (hb : base' ≤ base) : OwnTexts w base' vs l := by
  induction vs generalizing l with
  | nil => cases l with
    | nil => trivial
    | cons => exact h.elim
  | cons v vs ih => cases l with
    | nil => exact h.elim
    | cons x l => exact ⟨own_more h.1 hb, ih h.2⟩
theorem OwnTexts.mapTo {w w' : World} {base base' : Nat} (H : ∀ (v : Value) (n : Nat) (xs : List Value), w.ownsRow base 5 1 v n xs → w'.ownsRow base' 5 1 v n xs) : ∀ {vs : List Value} {l : List Bytes}, OwnTexts w base vs l → OwnTexts w' base' vs l
  | [], [], _ => trivial
  | v :: vs, x :: l, h => ⟨H _ _ _ h.1, OwnTexts.mapTo H h.2⟩
  | [], _ :: _, h => h.elim
  | _ :: _, [], h => h.elim
theorem cutR_zero {s : Sto} {k : Int} (h : (cutR s k).2 ≠ 0) : (cutR s k).1 = Sto.zero := by
  unfold cutR at *
  split
  · rfl
  · split
    · rfl
    · rename_i h1 h2
      rw [if_neg h1, if_neg h2] at h
      exact absurd rfl h
set_option maxRecDepth 100000 in
set_option maxHeartbeats 4000000 in
theorem open_any (A : Option Addr) (n c : Nat) (p : Int) (d : Bytes) (w : World) (h : Bys w w.heap.size A n d) (hn : n ≤ 10000000000) (hnc : n ≤ c) (hc63 : c ≤ 9223372036854775807) (hp : p ≤ 9223372036854775807) :
    Calls Try.prog 14 #[.agg #[.slice A n c, .int .i64 p]] w (GivesLog w (openR ⟨d, p⟩)) := by
  have KS := Lib.hid (fun W hW => scan_any A n c d W (h.to hW) (by omega) hnc hc63)
  have KC := Lib.hid (fun W k hW => cut_any A n c p k d W (h.to hW) hn hnc hc63 hp)
  have hO : openR ⟨d, p⟩ = if (cutR ⟨d, p⟩ (sizes (scan d))).2 ≠ 0 then (Lg.zero, [], (cutR ⟨d, p⟩ (sizes (scan d))).2) else (⟨(cutR ⟨d, p⟩ (sizes (scan d))).1.data, (cutR ⟨d, p⟩ (sizes (scan d))).1.power, (scan d).length, false⟩, scan d, 0) := rfl
  have hz := cutR_zero (s := ⟨d, p⟩) (k := (sizes (scan d) : Nat))
  have hO' := Lib.hid hO
  have hz' := Lib.hid hz
  clear h hO hz
  go_enter Try.func14, Try.ntmps14
  go_wp2_with fail
  refine (KS.out _ (by go_grown)).mono ?_
  rintro e w1 ⟨A1, c1, vs, rfl, ho1, ht1, hb1⟩
  have hs1 : w.heap.size + 1 < w1.heap.size := by have := hb1.size; simp at this; omega
  have x0 := Lib.hid ((hb1.block w.heap.size (by first | omega | (simp; done) | (simp; omega))).trans (show _ = some (Obj.cells #[.slice A n c, .int .i64 p] 27 (0, 0)) from (by (try rw [get_drew]); simp only [get_alloc, get_set, World.size_alloc, World.size_setCell]; simp [Nat.add_assoc])))
  have x1 := Lib.hid ((hb1.block (w.heap.size + 1) (by first | omega | (simp; done) | (simp; omega))).trans (show _ = some (Obj.cells #[.slice none 0 0, .int .i64 0, .int .i64 0, .bool false] 29 (0, 0)) from (by (try rw [get_drew]); simp only [get_alloc, get_set, World.size_alloc, World.size_setCell]; simp [Nat.add_assoc])))
  have HB1 := Lib.hid (Below.trans (by go_grown) (hb1.mono (by first | omega | (simp; done) | (simp; omega))) : Below w.heap.size w w1)
  have HO1 := Lib.hid (own_more ho1 (by first | omega | (simp; done) | (simp; omega)) : w1.ownsRow (w.heap.size + 2) 25 1 (.slice A1 (scan d).length c1) (scan d).length vs)
  have HT1 := Lib.hid (ht1.more (by first | omega | (simp; done) | (simp; omega)) : OwnTexts w1 (w.heap.size + 2) vs (scan d))
  have a0 := cell_of_row _ _ 0 _ _ _ x0.out
  have a1 := cell_of_row _ _ 1 _ _ _ x0.out
  clear hb1 ho1 ht1
  obtain ⟨r, hr⟩ : ∃ r, cutR ⟨d, p⟩ ((sizes (scan d) : Nat) : Int) = r := ⟨_, rfl⟩
  have KC1 := Lib.hid (KC.out w1 ((sizes (scan d) : Nat) : Int) HB1.out)
  rw [hr] at KC1 hO' hz'
  have HR := Lib.hid hr
  clear hr
  go_wp2_with fail
  refine KC1.out.mono ?_
  rintro e w2 ⟨A2, c2, rfl, ho2, hb2⟩
  have r0 := (hb2.block w.heap.size (row_lt x0.out)).trans x0.out
  have r1 := (hb2.block (w.heap.size + 1) (row_lt x1.out)).trans x1.out
  have HB2 := Lib.hid (HB1.out.trans (hb2.mono HB1.out.size) : Below w.heap.size w w2)
  have HO2 := Lib.hid (own_more ho2 (by omega) : w2.ownsRow (w.heap.size + 2) 5 1 (.slice A2 r.1.data.length c2) r.1.data.length (bys r.1.data))
  have HO1' := Lib.hid (own_kept HO1.out hb2 (Nat.le_refl _))
  have HT1' := Lib.hid (HT1.out.map fun v n xs h => own_kept h hb2 (Nat.le_refl _))
  have c0 := cell_of_row _ _ 0 _ _ _ r0
  have c1' := cell_of_row _ _ 1 _ _ _ r0
  have f0 := frozen_of_row _ _ 0 _ _ r0
  have f1 := frozen_of_row _ _ 1 _ _ r0
  have l0 := row_lt r0
  have d0 := cell_of_row _ _ 0 _ _ _ r1
  have d1 := cell_of_row _ _ 1 _ _ _ r1
  have d2 := cell_of_row _ _ 2 _ _ _ r1
  have d3 := cell_of_row _ _ 3 _ _ _ r1
  have g0 := frozen_of_row _ _ 0 _ _ r1
  have g1 := frozen_of_row _ _ 1 _ _ r1
  have g2 := frozen_of_row _ _ 2 _ _ r1
  have g3 := frozen_of_row _ _ 3 _ _ r1
  have l1 := row_lt r1
  clear hb2 ho2 a0 a1
  obtain ⟨⟨D, P⟩, E⟩ := r
  dsimp only at *
  by_cases hE : E = 0
  · have i1 : (E == 0) = true := by simpa using hE
    have i2 : (E != 0) = false := by simpa using hE
    have HE := Lib.hid hE
    clear hE
    go_wp2_with fail
    refine bodyPost_ret (v := .tuple #[.agg #[.slice A2 D.length c2, .int .i64 P, .int .i64 (scan d).length, .bool false], .slice A1 (scan d).length c1, .int .i64 0]) (by simp [results, Try.results14, go_sem, c0, c1', d0, d1, d2, d3]) rfl ?_
    rw [hO'.out, if_neg (by simp [HE.out])]
    have hb := ((((((HB2.out.setCell (p := ⟨w.heap.size, 0, none⟩) (by simp) (.slice A2 D.length c2)).setCell (p := ⟨w.heap.size, 1, none⟩) (by simp) (.int .i64 P)).setCell (p := ⟨w.heap.size + 1, 0, none⟩) (by simp) (.slice A2 D.length c2)).setCell (p := ⟨w.heap.size + 1, 1, none⟩) (by simp) (.int .i64 P)).setCell (p := ⟨w.heap.size + 1, 2, none⟩) (by simp) (.int .i64 (scan d).length)).setCell (p := ⟨w.heap.size + 1, 3, none⟩) (by simp) (.bool false))
    have m : ∀ (e : TypeId) (v : Value) (n : Nat) (xs : List Value), w2.ownsRow (w.heap.size + 2) e 1 v n xs → World.ownsRow (((((((w2.setCell ⟨w.heap.size, 0, none⟩ (.slice A2 D.length c2)).setCell ⟨w.heap.size, 1, none⟩ (.int .i64 P)).setCell ⟨w.heap.size + 1, 0, none⟩ (.slice A2 D.length c2)).setCell ⟨w.heap.size + 1, 1, none⟩ (.int .i64 P)).setCell ⟨w.heap.size + 1, 2, none⟩ (.int .i64 (scan d).length)).setCell ⟨w.heap.size + 1, 3, none⟩ (.bool false))) w.heap.size e 1 v n xs := fun e v n xs ho => by
      refine own_more (own_set (own_set (own_set (own_set (own_set (own_set ho ?_ _) ?_ _) ?_ _) ?_ _) ?_ _) ?_ _) (by omega)
      all_goals
        intro k hk e
        have := ho.lt k hk
        dsimp only at e
        omega
    exact ⟨A2, c2, A1, c1, vs, rfl, m _ _ _ _ HO2.out, m _ _ _ _ HO1'.out, HT1'.out.mapTo (m 5), hb⟩
  · have i1 : (E == 0) = false := by simpa using hE
    have i2 : (E != 0) = true := by simpa using hE
    have HE := Lib.hid hE
    clear hE
    go_wp2_with fail
    refine bodyPost_ret (v := .tuple #[.agg #[.slice none 0 0, .int .i64 0, .int .i64 0, .bool false], .slice none 0 0, .int .i64 E]) (by simp [results, Try.results14, go_sem, c0, c1', d0, d1, d2, d3]) rfl ?_
    rw [hO'.out, if_pos HE.out]
    refine ⟨none, 0, none, 0, [], rfl, World.ownsRow_nil _ _ _ _, World.ownsRow_nil _ _ _ _, trivial, ?_⟩
    exact ((((((HB2.out.setCell (by simp) _).setCell (by simp) _).setCell (by simp) _).setCell (by simp) _).setCell (by simp) _).setCell (by simp) _)
end Go.Proofs.Ytbkicepkkcambaa
