/- written, Write, Cut. -/
import Derived.Test.YtbkicepkkcambaaJouI
namespace Go.Proofs.Ytbkicepkkcambaa
open Go.RowKit BigFrame Go.Shelf
set_option linter.unusedVariables false
set_option linter.unusedSimpArgs false

theorem Bys.cutTo {w : World} {B n : Nat} {A : Option Addr} {l : Bytes} (h : Bys w B A n l) {k : Nat} (hk : k ≤ n) : Bys w B A k (l.take k) :=
  ⟨by rw [List.length_take, h.len]; omega, by
    have := h.reads.take (k := k) hk
    rwa [Nat.mul_one, bys_take] at this⟩
theorem get_alloc (w : World) (o : Obj) (b : Nat) : (w.alloc o).heap[b]? = if b = w.heap.size then some o else w.heap[b]? := by
  by_cases h : b = w.heap.size
  · rw [if_pos h]; exact heap_at h
  · rw [if_neg h]
    by_cases h2 : b < w.heap.size
    · exact Below.heap_alloc _ _ _ h2
    · rw [Array.getElem?_eq_none (by simp; omega), Array.getElem?_eq_none (by omega)]
theorem get_drew (w : World) (b : Nat) : w.drew.heap[b]? = w.heap[b]? := rfl
theorem get_set (w : World) (b k c : Nat) (u : Value) : (w.setCell ⟨b, k, none⟩ u).heap[c]? = if c = b then (w.heap[c]?).map (fun o => match o with | .cells cs t fr => .cells (cs.setIfInBounds k u) t fr | o => o) else w.heap[c]? := by
  by_cases h : c = b
  · subst h
    simp only [World.setCell, Array.getElem?_modify]
    rw [if_pos trivial, if_pos trivial]
    rfl
  · rw [if_neg h]
    exact far_row rfl h _
theorem canW_all {p : Int} {n : Nat} (h : p < 0 ∨ (n : Int) ≤ p) : canW p n = n := by unfold canW; split <;> omega
theorem canW_some {q n : Nat} (h : q < n) : canW q n = q := by unfold canW; split <;> omega
theorem wrote_eq {d x y : Bytes} {p p' er : Int} {n m : Nat} (hn : x.length = n) (hc : canW p n = m) (hy : y = x.take m) (hp : p' = if 0 ≤ p then p - m else p) (he : er = if m < n then 370 else 0) : ((⟨d ++ y, p'⟩ : Sto), er) = (wrote ⟨d, p⟩ x, wroteE ⟨d, p⟩ x) := by
  unfold wrote wroteE
  dsimp only
  rw [hn, hc, hy, hp, he]
/-- A call that hands back a store and an error. -/
def GivesSto (w : World) (r : Sto × Int) (e : Ending) (w' : World) : Prop :=
  ∃ A c, e = .returned (.tuple #[.agg #[.slice A r.1.data.length c, .int .i64 r.1.power], .int .i64 r.2]) ∧ w'.ownsRow w.heap.size 5 1 (.slice A r.1.data.length c) r.1.data.length (bys r.1.data) ∧ Below w.heap.size w w'
theorem end_sto {w w3 : World} {n c : Nat} {A : Option Addr} {l : Bytes} {p er : Int} (h : w3.ownsRow (w.heap.size + 2) 5 1 (.slice A n c) n (bys l)) (hB : Below w.heap.size w w3) (hl : l.length = n) (u0 u1 u2 : Value) :
    GivesSto w (⟨l, p⟩, er) (.returned (.tuple #[.agg #[.slice A n c, .int .i64 p], .int .i64 er])) (((w3.setCell ⟨w.heap.size, 0, none⟩ u0).setCell ⟨w.heap.size + 1, 0, none⟩ u1).setCell ⟨w.heap.size + 1, 1, none⟩ u2) := by
  subst hl
  refine ⟨A, c, rfl, own_set (own_set (own_set (own_more h (by omega)) ?_ _) ?_ _) ?_ _, ((hB.setCell (by simp) _).setCell (by simp) _).setCell (by simp) _⟩
  all_goals
    intro k hk e
    have := h.lt k hk
    dsimp only at e
    omega

set_option maxRecDepth 100000 in
set_option maxHeartbeats 4000000 in
theorem written_any (A A1 : Option Addr) (n c n1 c1 : Nat) (p : Int) (d x : Bytes) (w : World) (h : Bys w w.heap.size A n d) (hx : Bys w w.heap.size A1 n1 x) (hn : n ≤ 10000000000) (hn1 : n1 ≤ 10000000000) (hc1 : n1 ≤ c1) (hc63 : c1 ≤ 9223372036854775807) (hp : p ≤ 9223372036854775807) (hp0 : -1 ≤ p) :
    Calls Try.prog 34 #[.agg #[.slice A n c, .int .i64 p], .slice A1 n1 c1] w (GivesSto w (wrote ⟨d, p⟩ x, wroteE ⟨d, p⟩ x)) := by
  by_cases h0 : 0 ≤ p
  · obtain ⟨q, rfl⟩ : ∃ q : Nat, p = q := ⟨p.toNat, by omega⟩
    by_cases h1 : n1 ≤ q
    · have hcan : ((⟨d ++ x, (q : Int) - n1⟩ : Sto), (0 : Int)) = (wrote ⟨d, q⟩ x, wroteE ⟨d, q⟩ x) := wrote_eq hx.len (canW_all (by omega)) (by rw [← hx.len, List.take_length]) (by rw [if_pos (by omega)]) (by simp)
      have i1 : (n1 : Int) ≤ q := by omega
      have HC := Lib.hid hcan
      have HL := Lib.hid (show (d ++ x).length = n + n1 by rw [List.length_append, h.len, hx.len])
      have HH := Lib.hid h
      have HZB := Lib.hid hx
      have KC := fun (W : World) (X : Nat) (hX : X = W.heap.size) (hW : Below w.heap.size w W) => Lib.hid (concat_any X A A1 n c n1 c1 d x (W.alloc (.cells #[.slice A n c, .slice A1 n1 c1] 25)).drew (heap_at hX) ((HH.out.to hW).to (by go_grown)) ((HZB.out.to hW).to (by go_grown)) (by omega) (by omega))
      clear h hx hcan
      go_enter Try.func34, Try.ntmps34
      go_wp2_with fail
      go_region_with (go_at_call 41; go_loud (refine (KC _ _ (by first | omega | (simp; done) | (simp; omega)) (by go_grown)).out.mono ?_; rintro e w3 ⟨A3, c3, rfl, ho3, hb3⟩; have r0 := (hb3.block w.heap.size (by first | omega | (simp; done) | (simp; omega))).trans (show _ = some (Obj.cells #[.slice A n c, .int .i64 ((q : Int) - n1)] 27 (0, 0)) from (by (try rw [get_drew]); simp only [get_alloc, get_set, World.size_alloc, World.size_setCell]; simp [Nat.add_assoc])); have r1 := (hb3.block (w.heap.size + 1) (by first | omega | (simp; done) | (simp; omega))).trans (show _ = some (Obj.cells #[.slice none 0 0, .int .i64 0] 27 (0, 0)) from (by (try rw [get_drew]); simp only [get_alloc, get_set, World.size_alloc, World.size_setCell]; simp [Nat.add_assoc])); have HB3 := Lib.hid (Below.trans (by go_grown) (hb3.mono (by first | omega | (simp; done) | (simp; omega))) : Below w.heap.size w w3); have HO3 := Lib.hid (own_more ho3 (by first | omega | (simp; done) | (simp; omega)) : w3.ownsRow (w.heap.size + 2) 5 1 (.slice A3 (n + n1) c3) (n + n1) (bys (d ++ x))); have c0 := cell_of_row _ _ 0 _ _ _ r0; have c1' := cell_of_row _ _ 1 _ _ _ r0; have d0 := cell_of_row _ _ 0 _ _ _ r1; have d1 := cell_of_row _ _ 1 _ _ _ r1; have f0 := frozen_of_row _ _ 0 _ _ r0; have l0 := row_lt r0; have g0 := frozen_of_row _ _ 0 _ _ r1; have g1 := frozen_of_row _ _ 1 _ _ r1; have l1 := row_lt r1; clear hb3 ho3))
      all_goals go_wp2_with fail
      all_goals refine bodyPost_ret (v := .tuple #[.agg #[.slice A3 (n + n1) c3, .int .i64 ((q : Int) - n1)], .int .i64 0]) (by simp [results, Try.results34, go_sem, c0, c1', d0, d1]) rfl ?_
      all_goals exact HC.out ▸ end_sto HO3.out HB3.out HL.out _ _ _
    · have hcan : ((⟨d ++ x.take q, 0⟩ : Sto), (370 : Int)) = (wrote ⟨d, q⟩ x, wroteE ⟨d, q⟩ x) := wrote_eq hx.len (canW_some (by omega)) rfl (by rw [if_pos (by omega)]; omega) (by rw [if_pos (by omega)])
      have i1 : (q : Int) < n1 := by omega
      replace hx := hx.cutTo (k := q) (by omega)
      generalize x.take q = z at *
      have HC := Lib.hid hcan
      have HL := Lib.hid (show (d ++ z).length = n + q by rw [List.length_append, h.len, hx.len])
      have HH := Lib.hid h
      have HZB := Lib.hid hx
      have KC := fun (W : World) (X : Nat) (hX : X = W.heap.size) (hW : Below w.heap.size w W) => Lib.hid (concat_any X A A1 n c q c1 d z (W.alloc (.cells #[.slice A n c, .slice A1 q c1] 25)).drew (heap_at hX) ((HH.out.to hW).to (by go_grown)) ((HZB.out.to hW).to (by go_grown)) (by omega) (by omega))
      clear h hx hcan
      go_enter Try.func34, Try.ntmps34
      go_wp2_with fail
      go_region_with (go_at_call 41; go_loud (refine (KC _ _ (by first | omega | (simp; done) | (simp; omega)) (by go_grown)).out.mono ?_; rintro e w3 ⟨A3, c3, rfl, ho3, hb3⟩; have r0 := (hb3.block w.heap.size (by first | omega | (simp; done) | (simp; omega))).trans (show _ = some (Obj.cells #[.slice A n c, .int .i64 0] 27 (0, 0)) from (by (try rw [get_drew]); simp only [get_alloc, get_set, World.size_alloc, World.size_setCell]; simp [Nat.add_assoc])); have r1 := (hb3.block (w.heap.size + 1) (by first | omega | (simp; done) | (simp; omega))).trans (show _ = some (Obj.cells #[.slice none 0 0, .int .i64 0] 27 (0, 0)) from (by (try rw [get_drew]); simp only [get_alloc, get_set, World.size_alloc, World.size_setCell]; simp [Nat.add_assoc])); have HB3 := Lib.hid (Below.trans (by go_grown) (hb3.mono (by first | omega | (simp; done) | (simp; omega))) : Below w.heap.size w w3); have HO3 := Lib.hid (own_more ho3 (by first | omega | (simp; done) | (simp; omega)) : w3.ownsRow (w.heap.size + 2) 5 1 (.slice A3 (n + q) c3) (n + q) (bys (d ++ z))); have c0 := cell_of_row _ _ 0 _ _ _ r0; have c1' := cell_of_row _ _ 1 _ _ _ r0; have d0 := cell_of_row _ _ 0 _ _ _ r1; have d1 := cell_of_row _ _ 1 _ _ _ r1; have f0 := frozen_of_row _ _ 0 _ _ r0; have l0 := row_lt r0; have g0 := frozen_of_row _ _ 0 _ _ r1; have g1 := frozen_of_row _ _ 1 _ _ r1; have l1 := row_lt r1; clear hb3 ho3))
      all_goals go_wp2_with fail
      all_goals refine bodyPost_ret (v := .tuple #[.agg #[.slice A3 (n + q) c3, .int .i64 0], .int .i64 370]) (by simp [results, Try.results34, go_sem, c0, c1', d0, d1]) rfl ?_
      all_goals exact HC.out ▸ end_sto HO3.out HB3.out HL.out _ _ _
  · have hcan : ((⟨d ++ x, p⟩ : Sto), (0 : Int)) = (wrote ⟨d, p⟩ x, wroteE ⟨d, p⟩ x) := wrote_eq hx.len (canW_all (by omega)) (by rw [← hx.len, List.take_length]) (by rw [if_neg h0]) (by simp)
    have HC := Lib.hid hcan
    have HL := Lib.hid (show (d ++ x).length = n + n1 by rw [List.length_append, h.len, hx.len])
    have HH := Lib.hid h
    have HZB := Lib.hid hx
    have KC := fun (W : World) (X : Nat) (hX : X = W.heap.size) (hW : Below w.heap.size w W) => Lib.hid (concat_any X A A1 n c n1 c1 d x (W.alloc (.cells #[.slice A n c, .slice A1 n1 c1] 25)).drew (heap_at hX) ((HH.out.to hW).to (by go_grown)) ((HZB.out.to hW).to (by go_grown)) (by omega) (by omega))
    clear h hx hcan
    go_enter Try.func34, Try.ntmps34
    go_wp2_with fail
    go_region_with (go_at_call 41; go_loud (refine (KC _ _ (by first | omega | (simp; done) | (simp; omega)) (by go_grown)).out.mono ?_; rintro e w3 ⟨A3, c3, rfl, ho3, hb3⟩; have r0 := (hb3.block w.heap.size (by first | omega | (simp; done) | (simp; omega))).trans (show _ = some (Obj.cells #[.slice A n c, .int .i64 p] 27 (0, 0)) from (by (try rw [get_drew]); simp only [get_alloc, get_set, World.size_alloc, World.size_setCell]; simp [Nat.add_assoc])); have r1 := (hb3.block (w.heap.size + 1) (by first | omega | (simp; done) | (simp; omega))).trans (show _ = some (Obj.cells #[.slice none 0 0, .int .i64 0] 27 (0, 0)) from (by (try rw [get_drew]); simp only [get_alloc, get_set, World.size_alloc, World.size_setCell]; simp [Nat.add_assoc])); have HB3 := Lib.hid (Below.trans (by go_grown) (hb3.mono (by first | omega | (simp; done) | (simp; omega))) : Below w.heap.size w w3); have HO3 := Lib.hid (own_more ho3 (by first | omega | (simp; done) | (simp; omega)) : w3.ownsRow (w.heap.size + 2) 5 1 (.slice A3 (n + n1) c3) (n + n1) (bys (d ++ x))); have c0 := cell_of_row _ _ 0 _ _ _ r0; have c1' := cell_of_row _ _ 1 _ _ _ r0; have d0 := cell_of_row _ _ 0 _ _ _ r1; have d1 := cell_of_row _ _ 1 _ _ _ r1; have f0 := frozen_of_row _ _ 0 _ _ r0; have l0 := row_lt r0; have g0 := frozen_of_row _ _ 0 _ _ r1; have g1 := frozen_of_row _ _ 1 _ _ r1; have l1 := row_lt r1; clear hb3 ho3))
    all_goals go_wp2_with fail
    all_goals refine bodyPost_ret (v := .tuple #[.agg #[.slice A3 (n + n1) c3, .int .i64 p], .int .i64 0]) (by simp [results, Try.results34, go_sem, c0, c1', d0, d1]) rfl ?_
    all_goals exact HC.out ▸ end_sto HO3.out HB3.out HL.out _ _ _
end Go.Proofs.Ytbkicepkkcambaa
