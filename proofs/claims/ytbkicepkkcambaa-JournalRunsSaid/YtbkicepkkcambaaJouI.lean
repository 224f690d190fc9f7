/- slices.Concat of bytes: Grow, and the whole. -/
import Derived.Test.YtbkicepkkcambaaJouH
import Derived.Lib.AppendZerosOnto
namespace Go.Proofs.Ytbkicepkkcambaa
open Go.RowKit BigFrame Go.Shelf
set_option linter.unusedVariables false
set_option linter.unusedSimpArgs false

set_option maxRecDepth 100000 in
set_option maxHeartbeats 1000000 in
theorem grow_nil (n : Nat) (w : World) (hn : n ≤ 200000000000) :
    Calls Try.prog 46 #[.slice none 0 0, .int .i64 n] w fun e w' => ∃ A c, e = .returned (.slice A 0 c) ∧ w'.ownsRow w.heap.size 5 1 (.slice A 0 c) 0 [] ∧ Below w.heap.size w w' := by
  obtain ⟨i, hi, hz, h1, h2⟩ : ∃ i : TypeInfo, Try.prog.info? 5 = some i ∧ i.zero = some (.int .u8 0) ∧ i.size = 1 ∧ i.bytes = 1 := by
    have : (Try.prog.info? 5).map (fun i => (i.zero, i.size, i.bytes)) = some (some (.int .u8 0), 1, 1) := by kernel_rfl
    obtain ⟨i0, a, b, c, d⟩ := info_parts this
    exact ⟨i0, a, b, c, d⟩
  by_cases h0 : n = 0
  · subst h0
    go_enter Try.func46, Try.ntmps46
    go_wp2_with fail
    go_ret
    exact ⟨none, 0, rfl, World.ownsRow_nil _ _ _ _, Below.refl _ _⟩
  · have hp : (0 : Int) < n := by omega
    have hg := fun ty => Lib.run_append_grow_zeros (P := Try.prog) w 25 3 ty 5 i _ .i64 .i64 Try.underlying25 Try.underlying3 hi hz none 0 0 [] (by exact run_firstCells_none w.drew i.size 0 0 0) n (by omega) (by omega) (by omega) (by omega) (by rw [h2]; omega) (by rw [h2]; exact growslice_fits (by omega) (by omega))
    simp only [Nat.zero_add] at hg
    have hGn : n ≤ grownCap w n 0 5 := grownCap_ge w _ _ _
    have hG63 := grownCap_le_maxLen w n 0 5 (by unfold maxLen; omega)
    obtain ⟨G, hG⟩ : ∃ G, G = grownCap w n 0 5 := ⟨_, rfl⟩
    rw [← hG] at hGn hG63
    simp only [← hG] at hg
    have hG' : G ≤ 9223372036854775807 := by unfold maxLen at hG63; omega
    go_enter Try.func46, Try.ntmps46
    go_wp2_with (at_builtin; refine Lib.wpList_append_run _ rfl _ _ _ _ rfl _ _ rfl rfl _ _ (hg _) ?_)
    go_ret
    rw [← hG]
    refine ⟨_, _, rfl, ⟨rfl, .inr ⟨w.heap.size, G, _, rfl, Nat.le_refl _, World.alloc_heap_new w _, Nat.zero_le _, hG63, ?_, by simp⟩⟩, ?_⟩
    · have hz : ∀ k, (Builtin.zeroCells #[Value.int .u8 0] k).size = k := fun k => by simp [Builtin.zeroCells]
      rw [Array.size_append, hz, hz]
      omega
    · have := (Below.refl w.heap.size w).alloc (Nat.le_refl _) (.cells (Builtin.zeroCells #[Value.int .u8 0] n ++ Builtin.zeroCells #[Value.int .u8 0] (G - n)) 5)
      exact ⟨this.os, this.tape, this.output, this.size, this.block⟩

set_option maxRecDepth 100000 in
set_option maxHeartbeats 4000000 in
/-- slices.Concat of two rows. -/
theorem concat_any (X : Nat) (A0 A1 : Option Addr) (n0 c0 n1 c1 : Nat) (a b : Bytes) (w : World) (hx : w.heap[X]? = some (.cells #[.slice A0 n0 c0, .slice A1 n1 c1] 25 (0, 0))) (h0 : Bys w w.heap.size A0 n0 a) (h1 : Bys w w.heap.size A1 n1 b) (hn0 : n0 ≤ 100000000000) (hn1 : n1 ≤ 100000000000) :
    Calls Try.prog 41 #[.slice (some ⟨X, 0, none⟩) 2 2] w fun e w' => ∃ A c, e = .returned (.slice A (n0 + n1) c) ∧ w'.ownsRow w.heap.size 5 1 (.slice A (n0 + n1) c) (n0 + n1) (bys (a ++ b)) ∧ Below w.heap.size w w' := by
  have f0 : w.cell? ⟨X, 0, none⟩ = some (.slice A0 n0 c0) := cell_of_row _ _ 0 _ _ _ hx
  have f1 : w.cell? ⟨X, 1, none⟩ = some (.slice A1 n1 c1) := cell_of_row _ _ 1 _ _ _ hx
  have hX := row_lt hx
  have HX := Lib.hid hx
  clear hx
  go_enter Try.func41, Try.ntmps41
  go_wp2_with fail
  have e1 : IntKind.i64.wrap ((n0 : Int) + (n1 : Int)) = ((n0 + n1 : Nat) : Int) := by rw [IntWalk.i64_in _ (by omega)]; omega
  have e2 : ¬ ((n0 : Int) < 0) := by omega
  have e3 : ¬ ((n0 + n1 : Nat) : Int) < 0 := by omega
  refine wp_loop_rounds 3 ?_
  rw [rounds_succ]
  go_wp2_with fail
  rw [rounds_succ]
  go_wp2_with fail
  rw [rounds_succ]
  go_wp2_with fail
  have KG := grow_nil (n0 + n1) w (by omega)
  rw [Int.natCast_add] at KG
  refine KG.mono ?_
  rintro e w1 ⟨A2, c2, rfl, ho2, hb2⟩
  clear KG
  have hx2 := (hb2.block X hX).trans HX.out
  have g0 : w1.cell? ⟨X, 0, none⟩ = some (.slice A0 n0 c0) := cell_of_row _ _ 0 _ _ _ hx2
  have HX2 := Lib.hid hx2
  have hs2 := hb2.size
  clear hx2 f0 f1
  go_wp2_with fail
  refine wp_loop_rounds 3 ?_
  rw [rounds_succ]
  go_wp2_with (at_builtin; go_must (refine elemByte.list_append rfl (.tmp 31) (.tmp 32) rfl rfl ho2 rfl ((h0.to hb2).reads) (bys_one _) (by unfold maxLen; omega) (by omega) hs2 ?_; intro v3 w3 ho3 hg3 hat3; obtain ⟨A3, c3, hv3, _⟩ := own_shape ho3; subst hv3; change w1.grownBy w3 (Value.slice A2 0 c2).ownBlock at hg3))
  have hx3 : w3.heap[X]? = some (.cells #[.slice A0 n0 c0, .slice A1 n1 c1] 25 (0, 0)) := (hg3.block X (by omega) (fun e => row_ne HX2.out ho2 (by decide) e.symm)).trans HX2.out
  have g1 : w3.cell? ⟨X, 1, none⟩ = some (.slice A1 n1 c1) := cell_of_row _ _ 1 _ _ _ hx3
  have hb3 : Below w.heap.size w w3 := Below.grown hb2 hg3 hs2 (fun k hk => (ho2.lt k hk).1)
  have hs3 := hb3.size
  simp only [Nat.zero_add, List.nil_append] at ho3 ⊢
  clear hx3 g0 hg3 hat3
  rw [rounds_succ]
  go_wp2_with (at_builtin; go_must (refine elemByte.list_append rfl (.tmp 31) (.tmp 32) rfl rfl ho3 rfl ((h1.to hb3).reads) (bys_one _) (by unfold maxLen; omega) (by omega) hs3 ?_; intro v4 w4 ho4 hg4 hat4; obtain ⟨A4, c4, hv4, _⟩ := own_shape ho4; subst hv4; change w3.grownBy w4 (Value.slice A3 n0 c3).ownBlock at hg4))
  rw [rounds_succ]
  go_wp2_with fail
  go_ret
  refine ⟨A4, c4, rfl, by rwa [← bys_append] at ho4, Below.grown hb3 hg4 hs3 (fun k hk => (ho3.lt k hk).1)⟩
end Go.Proofs.Ytbkicepkkcambaa
