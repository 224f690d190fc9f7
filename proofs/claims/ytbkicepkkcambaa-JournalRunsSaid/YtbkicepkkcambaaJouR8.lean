/- The law package: plain, sameLog. -/
import Derived.Test.YtbkicepkkcambaaJouR7
namespace Go.Proofs.Ytbkicepkkcambaa
open Go.RowKit BigFrame Go.Shelf
set_option linter.unusedVariables false
set_option linter.unusedSimpArgs false

set_option maxRecDepth 100000 in
set_option maxHeartbeats 1000000 in
theorem plain_any (A : Option Addr) (n c : Nat) (p k : Int) (down : Bool) (w : World) :
    Calls Try.prog 17 #[.agg #[.slice A n c, .int .i64 p, .int .i64 k, .bool down]] w fun e w' => e = .returned (.agg #[.slice A n c, .int .i64 p, .int .i64 k, .bool down]) ∧ Below w.heap.size w w' := by
  go_enter Try.func17, Try.ntmps17
  go_wp2_with fail
  generalize hwE : World.alloc (World.alloc w _) _ = wE
  have hsE : wE.heap.size = w.heap.size + 2 := by rw [← hwE]; simp
  have hbE : Below w.heap.size w wE := by rw [← hwE]; go_grown
  have r0 : wE.heap[w.heap.size]? = some (.cells #[.slice A n c, .int .i64 p, .int .i64 k, .bool down] 29 (0, 0)) := by rw [← hwE]; (try rw [get_drew]); simp only [get_alloc, get_set, World.size_alloc, World.size_setCell]; simp [Nat.add_assoc]
  have r1 : wE.heap[w.heap.size + 1]? = some (.cells #[.slice none 0 0, .int .i64 0, .int .i64 0, .bool false] 32 (0, 0)) := by rw [← hwE]; (try rw [get_drew]); simp only [get_alloc, get_set, World.size_alloc, World.size_setCell]; simp [Nat.add_assoc]
  have HBE := Lib.hid hbE
  have R0 := Lib.hid r0
  have R1 := Lib.hid r1
  have KEEP : Hid (∀ W', Below (w.heap.size + 1) wE W' → W'.cell? ⟨w.heap.size, 0, none⟩ = some (.slice A n c) ∧ W'.cell? ⟨w.heap.size, 1, none⟩ = some (.int .i64 p) ∧ W'.cell? ⟨w.heap.size, 2, none⟩ = some (.int .i64 k) ∧ W'.cell? ⟨w.heap.size, 3, none⟩ = some (.bool down)) :=
    Lib.hid fun W' hW' => ⟨(hW'.cell (p := ⟨w.heap.size, 0, none⟩) (by simp)).trans (cell_of_row _ _ 0 _ _ _ r0), (hW'.cell (p := ⟨w.heap.size, 1, none⟩) (by simp)).trans (cell_of_row _ _ 1 _ _ _ r0), (hW'.cell (p := ⟨w.heap.size, 2, none⟩) (by simp)).trans (cell_of_row _ _ 2 _ _ _ r0), (hW'.cell (p := ⟨w.heap.size, 3, none⟩) (by simp)).trans (cell_of_row _ _ 3 _ _ _ r0)⟩
  clear hwE hbE r0 r1
  refine wp_region_held_drew (S := fun W' => W'.cell? ⟨w.heap.size, 0, none⟩ = some (.slice A n c) ∧ W'.cell? ⟨w.heap.size, 1, none⟩ = some (.int .i64 p) ∧ W'.cell? ⟨w.heap.size, 2, none⟩ = some (.int .i64 k) ∧ W'.cell? ⟨w.heap.size, 3, none⟩ = some (.bool down)) (by kernel_rfl) (KEEP.out _ (by go_grown)) (fun hS => ?_)
  refine wpAnyH_take (i := 0) (oi := ⟨some 3, _, _, _, _, _⟩) (v := ?_) rfl (by kernel_rfl) (by kernel_rfl) (by kernel_rfl) (fun _ _ _ h => h) (Or.inl ⟨by rfl, ?_⟩) hS ?_
  rotate_left
  · (intro _ hW; obtain ⟨hW0, hW1, hW2, hW3⟩ := hW; go_simp; try (with_reducible rfl))
  try simp only [Act.put, List.setIfInBounds_toArray, List.set_cons_zero, List.set_cons_succ]
  refine wpAnyH_take (i := 1) (oi := ⟨some 4, _, _, _, _, _⟩) (v := ?_) rfl (by kernel_rfl) (by kernel_rfl) (by kernel_rfl) (fun _ _ _ h => h) (Or.inl ⟨by rfl, ?_⟩) hS ?_
  rotate_left
  · (intro _ hW; obtain ⟨hW0, hW1, hW2, hW3⟩ := hW; go_simp; try (with_reducible rfl))
  try simp only [Act.put, List.setIfInBounds_toArray, List.set_cons_zero, List.set_cons_succ]
  refine wpAnyH_take (i := 3) (oi := ⟨some 6, _, _, _, _, _⟩) (v := ?_) rfl (by kernel_rfl) (by kernel_rfl) (by kernel_rfl) (fun _ _ _ h => h) (Or.inl ⟨by rfl, ?_⟩) hS ?_
  rotate_left
  · (intro _ hW; obtain ⟨hW0, hW1, hW2, hW3⟩ := hW; go_simp; try (with_reducible rfl))
  try simp only [Act.put, List.setIfInBounds_toArray, List.set_cons_zero, List.set_cons_succ]
  refine wpAnyH_take (i := 4) (oi := ⟨some 7, _, _, _, _, _⟩) (v := ?_) rfl (by kernel_rfl) (by kernel_rfl) (by kernel_rfl) (fun _ _ _ h => h) (Or.inl ⟨by rfl, ?_⟩) hS ?_
  rotate_left
  · (intro _ hW; obtain ⟨hW0, hW1, hW2, hW3⟩ := hW; go_simp; try (with_reducible rfl))
  try simp only [Act.put, List.setIfInBounds_toArray, List.set_cons_zero, List.set_cons_succ]
  refine wpAnyH_take (i := 5) (oi := ⟨some 8, _, _, _, _, _⟩) (v := ?_) rfl (by kernel_rfl) (by kernel_rfl) (by kernel_rfl) (fun _ _ _ h => h) (Or.inl ⟨by rfl, ?_⟩) hS ?_
  rotate_left
  · (intro _ hW; obtain ⟨hW0, hW1, hW2, hW3⟩ := hW; go_simp; try (with_reducible rfl))
  try simp only [Act.put, List.setIfInBounds_toArray, List.set_cons_zero, List.set_cons_succ]
  refine wpAnyH_take (i := 6) (oi := ⟨some 9, _, _, _, _, _⟩) (v := ?_) rfl (by kernel_rfl) (by kernel_rfl) (by kernel_rfl) (fun _ _ _ h => h) (Or.inl ⟨by rfl, ?_⟩) hS ?_
  rotate_left
  · (intro _ hW; obtain ⟨hW0, hW1, hW2, hW3⟩ := hW; go_simp; try (with_reducible rfl))
  try simp only [Act.put, List.setIfInBounds_toArray, List.set_cons_zero, List.set_cons_succ]
  refine wpAnyH_ready (rs := [2]) (by kernel_rfl) (by simp) ?_
  refine AllReadyH.cons rfl (fun K hK => ?_) AllReadyH.nil
  go_simp
  go_at_call 13
  refine (store_any A n c p _).mono ?_
  rintro e w2 ⟨rfl, hb2⟩
  have hb3 : Below wE.heap.size wE w2 := drew_below hb2
  have HB2 := Lib.hid hb3
  have r1 := (hb3.block (w.heap.size + 1) (by omega)).trans R1.out
  clear hb2 hb3
  refine hK.out _ _ ?_ (fun hS => ?_)
  · exact KEEP.out _ (HB2.out.mono (by omega))
  clear hK K
  try simp only [Act.put, List.setIfInBounds_toArray, List.set_cons_zero, List.set_cons_succ]
  refine wpAnyH_take (i := 7) (oi := ⟨some 10, _, _, _, _, _⟩) (v := ?_) rfl (by kernel_rfl) (by kernel_rfl) (by kernel_rfl) (fun _ _ _ h => h) (Or.inl ⟨by rfl, ?_⟩) hS ?_
  rotate_left
  · (intro _ hW; obtain ⟨hW0, hW1, hW2, hW3⟩ := hW; go_simp; try (with_reducible rfl))
  try simp only [Act.put, List.setIfInBounds_toArray, List.set_cons_zero, List.set_cons_succ]
  have d0 := cell_of_row _ _ 0 _ _ _ r1
  have d1 := cell_of_row _ _ 1 _ _ _ r1
  have d2 := cell_of_row _ _ 2 _ _ _ r1
  have d3 := cell_of_row _ _ 3 _ _ _ r1
  have g0 := frozen_of_row _ _ 0 _ _ r1
  have g1 := frozen_of_row _ _ 1 _ _ r1
  have g2 := frozen_of_row _ _ 2 _ _ r1
  have g3 := frozen_of_row _ _ 3 _ _ r1
  have l1 := row_lt r1
  clear r1
  refine wpAnyH_ready (rs := [8]) (by kernel_rfl) (by simp) ?_
  refine AllReadyH.cons rfl (fun K hK => ?_) AllReadyH.nil
  go_simp
  refine hK.out _ _ ?_ (fun hS => ?_)
  · exact KEEP.out _ (((((HB2.out.mono (by omega)).setCell (by simp) _).setCell (by simp) _).setCell (by simp) _).setCell (by simp) _)
  clear hK K
  try simp only [Act.put, List.setIfInBounds_toArray, List.set_cons_zero, List.set_cons_succ]
  refine wpAnyH_done (by kernel_rfl) ?_ _
  clear hS
  go_wp2_with fail
  refine bodyPost_ret (v := .agg #[.slice A n c, .int .i64 p, .int .i64 k, .bool down]) (by simp [results, Try.results17, go_sem, d0, d1, d2, d3]) rfl ?_
  exact ⟨rfl, ((((HBE.out.trans (HB2.out.mono (by omega))).setCell (by simp) _).setCell (by simp) _).setCell (by simp) _).setCell (by simp) _⟩

set_option maxRecDepth 100000 in
set_option maxHeartbeats 1000000 in
theorem sameLog_any (A A' : Option Addr) (n c n' c' : Nat) (p k : Int) (down : Bool) (d : Bytes) (w : World) (ha : Bys w w.heap.size A n d) (hb : Bys w w.heap.size A' n' d) :
    Calls Try.prog 16 #[.agg #[.slice A n c, .int .i64 p, .int .i64 k, .bool down], .agg #[.slice A' n' c', .int .i64 p, .int .i64 k, .bool down]] w fun e w' => e = .returned (.bool true) ∧ Below w.heap.size w w' := by
  have KS := Lib.hid (fun W (hW : Below w.heap.size w W) => sameStore_any A A' n c n' c' p p d d W (ha.to hW) (hb.to hW))
  rw [show (decide (p = p) && (d == d)) = true from by simp] at KS
  clear ha hb
  go_enter Try.func16, Try.ntmps16
  go_wp2_with fail
  refine (KS.out _ (by go_grown)).mono ?_
  rintro e w1 ⟨rfl, hb1⟩
  have r0 := (hb1.block w.heap.size (by first | omega | (simp; done) | (simp; omega))).trans (show _ = some (Obj.cells #[.slice A n c, .int .i64 p, .int .i64 k, .bool down] 32 (0, 0)) from (by (try rw [get_drew]); simp only [get_alloc, get_set, World.size_alloc, World.size_setCell]; simp [Nat.add_assoc]))
  have r1 := (hb1.block (w.heap.size + 1) (by first | omega | (simp; done) | (simp; omega))).trans (show _ = some (Obj.cells #[.slice A' n' c', .int .i64 p, .int .i64 k, .bool down] 32 (0, 0)) from (by (try rw [get_drew]); simp only [get_alloc, get_set, World.size_alloc, World.size_setCell]; simp [Nat.add_assoc]))
  have HB1 := Lib.hid (Below.trans (by go_grown) (hb1.mono (by first | omega | (simp; done) | (simp; omega))) : Below w.heap.size w w1)
  have e2 := cell_of_row _ _ 2 _ _ _ r0
  have e3 : w1.cell? ⟨w.heap.size, 3, none⟩ = some (.bool down) := cell_of_row _ _ 3 _ _ _ r0
  have d2 := cell_of_row _ _ 2 _ _ _ r1
  have d3 : w1.cell? ⟨w.heap.size + 1, 3, none⟩ = some (.bool down) := cell_of_row _ _ 3 _ _ _ r1
  have i1 : (k == k) = true := by simp
  have i2 : (down == down) = true := by simp
  clear r0 r1 hb1
  go_wp2_with fail
  go_ret
  exact ⟨rfl, HB1.out⟩
end Go.Proofs.Ytbkicepkkcambaa
