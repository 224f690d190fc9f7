/- Stores and logs: Valid, Right. -/
import Derived.Test.YtbkicepkkcambaaJouG
namespace Go.Proofs.Ytbkicepkkcambaa
open Go.RowKit BigFrame Go.Shelf
set_option linter.unusedVariables false
set_option linter.unusedSimpArgs false
attribute [local go_sem] Oper.semAt_some

set_option maxRecDepth 100000 in
set_option maxHeartbeats 1000000 in
theorem valid_any (A : Option Addr) (n c : Nat) (p : Int) (w : World) (hn : n ≤ 100000000000) :
    Calls Try.prog 26 #[.agg #[.slice A n c, .int .i64 p]] w fun e w' => e = .returned (.bool (decide (n ≤ 1048576) && decide (-1 ≤ p))) ∧ Below w.heap.size w w' := by
  by_cases h1 : n ≤ 1048576
  · have i1 : (n : Int) ≤ 1048576 := by omega
    go_enter Try.func26, Try.ntmps26
    go_wp2_with fail
    go_ret
    exact ⟨by simp [h1], (Below.refl _ _).alloc (Nat.le_refl _) _⟩
  · have i1 : ¬ (n : Int) ≤ 1048576 := by omega
    go_enter Try.func26, Try.ntmps26
    go_wp2_with fail
    go_ret
    exact ⟨by simp [h1], (Below.refl _ _).alloc (Nat.le_refl _) _⟩

/-- What Right has when some records have come. -/
def Counted (w : World) (v : Value) (pre : List Item) (W : World) : Prop :=
  Below w.heap.size w W ∧ W.heap[w.heap.size]? = some (.cells v.cells 29 (0, 0)) ∧ W.heap[w.heap.size + 1]? = some (.cells #[.int .i64 ((pre.length : Nat) : Int)] 3 (0, 0)) ∧ W.heap[w.heap.size + 1 + 1]? = some (.cells #[.int .i64 ((lastEnd pre : Nat) : Int)] 3 (0, 0))
theorem counted_abides (w : World) (v : Value) {B : Nat} (hB : w.heap.size + 1 + 1 < B) : AbidesT 85 B (Counted w v) := by
  rintro s W W' row ⟨hb, h0, h1, h2⟩ hg hr
  have l0 := row_lt h0
  have l1 := row_lt h1
  have l2 := row_lt h2
  refine ⟨hb.trans ⟨hg.os, hg.tape, hg.output, hg.size, fun k hk => hg.block k (by omega) fun e => ?_⟩, (hg.block _ l0 fun e => ?_).trans h0, (hg.block _ l1 fun e => ?_).trans h1, (hg.block _ l2 fun e => ?_).trans h2⟩
  · have := (hr k e.symm).1
    omega
  · have := (hr _ e.symm).1
    omega
  · have := (hr _ e.symm).1
    omega
  · have := (hr _ e.symm).1
    omega

theorem counted_round {w W : World} {vs : Array Value} {pre : List Item} {x : Item} {B : Nat} (hbW : Below w.heap.size w W) (h0 : W.heap[w.heap.size]? = some (.cells vs 29 (0, 0))) (h1 : W.heap[w.heap.size + 1]? = some (.cells #[.int .i64 ((pre.length : Nat) : Int)] 3 (0, 0))) (h2 : W.heap[w.heap.size + 1 + 1]? = some (.cells #[.int .i64 ((lastEnd pre : Nat) : Int)] 3 (0, 0))) :
    KeepsFrom B W ((W.setCell ⟨w.heap.size + 1, 0, none⟩ (.int .i64 ((pre.length : Int) + 1))).setCell ⟨w.heap.size + 1 + 1, 0, none⟩ (.int .i64 (x.nxt : Int))) ∧ Kp w.heap.size 85 W ((W.setCell ⟨w.heap.size + 1, 0, none⟩ (.int .i64 ((pre.length : Int) + 1))).setCell ⟨w.heap.size + 1 + 1, 0, none⟩ (.int .i64 (x.nxt : Int))) ∧
      Counted w (.agg vs) (pre ++ [x]) ((W.setCell ⟨w.heap.size + 1, 0, none⟩ (.int .i64 ((pre.length : Int) + 1))).setCell ⟨w.heap.size + 1 + 1, 0, none⟩ (.int .i64 (x.nxt : Int))) := by
  have hb : Below w.heap.size W ((W.setCell ⟨w.heap.size + 1, 0, none⟩ (.int .i64 ((pre.length : Int) + 1))).setCell ⟨w.heap.size + 1 + 1, 0, none⟩ (.int .i64 (x.nxt : Int))) := ((Below.refl _ W).setCell (p := ⟨w.heap.size + 1, 0, none⟩) (by simp) _).setCell (p := ⟨w.heap.size + 1 + 1, 0, none⟩) (by simp; omega) _
  refine ⟨((KeepsOthers.setCell _ _ _).trans (KeepsOthers.setCell _ _ _)).from _, ⟨hb, fun r cs fr hr => far_row (far_row rfl ?_ _) ?_ _⟩, hbW.trans hb, far_row (far_row h0 (by simp) _) (by simp; omega) _, ?_, ?_⟩
  · intro e
    have e' : r = w.heap.size + 1 := e
    subst e'
    rw [h1] at hr
    injection hr with hr
    injection hr with _ hr
    exact absurd hr (by decide)
  · intro e
    have e' : r = w.heap.size + 1 + 1 := e
    subst e'
    rw [h2] at hr
    injection hr with hr
    injection hr with _ hr
    exact absurd hr (by decide)
  · refine far_row ((set_row h1 _).trans ?_) (by simp) _
    simp [Int.natCast_add]
  · rw [lastEnd_snoc]; exact set_row (far_row h2 (by simp) _) _

set_option maxRecDepth 100000 in
set_option maxHeartbeats 4000000 in
theorem right_any (A : Option Addr) (n c : Nat) (p k : Int) (down : Bool) (d : Bytes) (w : World) (h : Bys w w.heap.size A n d) (hn : n ≤ 100000000000) (hc : n ≤ c) (hc63 : c ≤ 9223372036854775807) :
    Calls Try.prog 22 #[.agg #[.slice A n c, .int .i64 p, .int .i64 k, .bool down]] w fun e w' => e = .returned (.bool ((decide (n ≤ 1048576) && decide (-1 ≤ p)) && decide (((scan d).length : Int) = k) && (down || decide (sizes (scan d) = n)))) ∧ Below w.heap.size w w' := by
  have hsh := scan_short d
  have hro := scan_room d (scan d).length
  rw [List.take_length, h.len] at hro
  refine (callsIn_wide (n := 8)).1 ?_
  refine callsIn_of_wp_marks Try.func22 rfl trivial ?_ rfl
  simp only [Try.ntmps22, List.size_toArray, List.length_cons, List.length_nil, Nat.reduceAdd, Nat.reduceSub, Array.replicate_succ, Array.replicate_zero, List.push_toArray, List.append_toArray, List.nil_append, List.cons_append]
  gi_wp2_with fail
  refine ⟨trivial, ?_⟩
  refine (callsIn_wide.2 (records_any A n c _)).mono ?_
  rintro e w1 ⟨rfl, rfl⟩
  gi_wp2_with fail
  obtain ⟨wE, hE⟩ : ∃ wE, ((w.alloc (.cells #[.slice A n c, .int .i64 p, .int .i64 k, .bool down] 29)).alloc (.cells #[.int .i64 0] 3)).alloc (.cells #[.int .i64 0] 3) = wE := ⟨_, rfl⟩
  have hsE : wE.heap.size = w.heap.size + 3 := by rw [← hE]; simp
  have hbE : Below w.heap.size w wE := by rw [← hE]; exact (((Below.refl _ w).alloc (Nat.le_refl _) _).alloc (by simp) _).alloc (by simp; omega) _
  have hx0 : wE.heap[w.heap.size]? = some (.cells #[.slice A n c, .int .i64 p, .int .i64 k, .bool down] 29 (0, 0)) := by
    rw [← hE]; exact (Below.heap_alloc _ _ _ (by simp; omega)).trans ((Below.heap_alloc _ _ _ (by simp)).trans (World.alloc_heap_new w _))
  have hx1 : wE.heap[w.heap.size + 1]? = some (.cells #[.int .i64 0] 3 (0, 0)) := by
    rw [← hE]; exact (Below.heap_alloc _ _ _ (by simp)).trans (heap_at (by simp))
  have hx2 : wE.heap[w.heap.size + 1 + 1]? = some (.cells #[.int .i64 0] 3 (0, 0)) := by
    rw [← hE]; exact heap_at (by simp)
  rw [hE]
  clear hE
  have hI0 : Counted w (.agg #[.slice A n c, .int .i64 p, .int .i64 k, .bool down]) [] (wE.alloc (.cells #[.slice A n c] 25)) :=
    ⟨hbE.alloc (by omega) _, (Below.heap_alloc _ _ _ (by omega)).trans hx0, (Below.heap_alloc _ _ _ (by omega)).trans hx1, (Below.heap_alloc _ _ _ (by omega)).trans hx2⟩
  have hsW : (wE.alloc (.cells #[.slice A n c] 25)).heap.size = w.heap.size + 4 := by simp [hsE]
  have hcell : (wE.alloc (.cells #[.slice A n c] 25)).cell? ⟨w.heap.size + 1 + 1 + 1, 0, none⟩ = some (.slice A n c) := cell_of_row _ _ 0 _ _ _ (heap_at (by omega))
  have hdW : Bys (wE.alloc (.cells #[.slice A n c] 25)) w.heap.size A n d := h.later (Nat.le_refl _) (hbE.alloc (by omega) _)
  obtain ⟨W0, hW0⟩ : ∃ W0, wE.alloc (.cells #[.slice A n c] 25) = W0 := ⟨_, rfl⟩
  rw [hW0] at hI0 hsW hcell hdW ⊢
  clear hW0 hx0 hx1 hx2 hbE
  refine wpIn_rangeT rfl (by omega) (gf := 44) (lb := #[.pointer (some ⟨w.heap.size + 1 + 1 + 1, 0, none⟩)]) rfl trivial (enters_of Try.func44 (by kernel_rfl) rfl)
    (records_iter 7 (by omega) w.heap.size (w.heap.size + 1 + 1 + 1) A n c d W0 (by omega) (by omega) hcell hdW hn hc hc63) Kp.trans ?hKb (Below.refl _ _) (fun _ => rfl) (Counted w (.agg #[.slice A n c, .int .i64 p, .int .i64 k, .bool down])) (counted_abides w _ (by omega)) hI0
    (fun x => { tmps := #[.agg #[.slice A n c, .int .i64 p, .int .i64 k, .bool down], .pointer (some ⟨w.heap.size, 0, none⟩), .bool false, .pointer (some ⟨w.heap.size + 1, 0, none⟩), .pointer (some ⟨w.heap.size + 1 + 1, 0, none⟩), undef, .int .i64 x.nxt, .pointer (some ⟨w.heap.size, 0, none⟩), .pointer (some ⟨w.heap.size, 0, none⟩), .slice A n c, .func (.func 44) #[] #[.pointer (some ⟨w.heap.size + 1 + 1 + 1, 0, none⟩)], .slice x.A x.p.length x.c, .int .i64 x.nxt, undef, undef, undef, undef, undef, undef, undef, undef, undef, undef, undef, undef, undef, undef, undef, undef, undef, undef, undef, undef, undef, undef, undef, undef], defers := [] }) ?assign ?body ?done
  case hKb =>
    intro W l o o' hl ho hc'
    refine ⟨⟨rfl, rfl, rfl, by simp [World.putObj], fun k hk => World.putObj_heap_other (by omega)⟩, fun r cs fr hr => World.putObj_heap_other fun e => ?_⟩
    subst e
    rw [ho] at hr
    injection hr with hr
    subst hr
    simp [Obj.isCells] at hc'
  case assign =>
    intro l x W K hK
    dsimp only [Item.encs]
    gi_wp2
    exact hK
  case body =>
    rintro l pre x W hpre ⟨hbW, h0, h1, h2⟩
    have hpl : pre.length ≤ 65536 := by
      have := hpre.length_le
      rw [items_length] at this
      simp at this
      omega
    have c1 : W.cell? ⟨w.heap.size + 1, 0, none⟩ = some (.int .i64 ((pre.length : Nat) : Int)) := cell_of_row _ _ 0 _ _ _ h1
    have f1 := frozen_of_row _ _ 0 _ _ h1
    have c2 : W.cell? ⟨w.heap.size + 1 + 1, 0, none⟩ = some (.int .i64 ((lastEnd pre : Nat) : Int)) := cell_of_row _ _ 0 _ _ _ h2
    have f2 := frozen_of_row _ _ 0 _ _ h2
    have HH := Lib.hid (⟨hbW, h0, h1, h2⟩ : Below w.heap.size w W ∧ W.heap[w.heap.size]? = some (.cells #[.slice A n c, .int .i64 p, .int .i64 k, .bool down] 29 (0, 0)) ∧ W.heap[w.heap.size + 1]? = _ ∧ W.heap[w.heap.size + 1 + 1]? = _)
    clear h0 h1 h2 hbW hpre hcell hdW hI0
    gi_wp2_with fail
    obtain ⟨hbW, h0, h1, h2⟩ := HH.out
    exact counted_round hbW h0 h1 h2
  case done =>
    rintro D W hD ⟨hbW, h0, h1, h2⟩ hK
    rw [lastEnd_all] at h2
    rw [items_length] at h1
    have g0 : W.cell? ⟨w.heap.size, 0, none⟩ = some (.slice A n c) := cell_of_row _ _ 0 _ _ _ h0
    have g1 : W.cell? ⟨w.heap.size, 1, none⟩ = some (.int .i64 p) := cell_of_row _ _ 1 _ _ _ h0
    gi_wp2_with fail
    refine ⟨trivial, ?_⟩
    refine (callsIn_wide.2 (valid_any A n c p _ hn)).mono ?_
    rintro e w2 ⟨rfl, hb2⟩
    obtain ⟨bv, hbv⟩ : ∃ bv, (decide (n ≤ 1048576) && decide (-1 ≤ p)) = bv := ⟨_, rfl⟩
    rw [hbv]
    have HBV := Lib.hid hbv
    clear hbv
    have x0 := (hb2.block _ (row_lt h0)).trans h0
    have x1 := (hb2.block _ (row_lt h1)).trans h1
    have x2 := (hb2.block _ (row_lt h2)).trans h2
    have hK2 := (hb2.block _ (row_lt hK)).trans hK
    have g0 : w2.cell? ⟨w.heap.size, 0, none⟩ = some (.slice A n c) := cell_of_row _ _ 0 _ _ _ x0
    have g2 : w2.cell? ⟨w.heap.size, 2, none⟩ = some (.int .i64 k) := cell_of_row _ _ 2 _ _ _ x0
    have g3 : w2.cell? ⟨w.heap.size, 3, none⟩ = some (.bool down) := cell_of_row _ _ 3 _ _ _ x0
    have c1 : w2.cell? ⟨w.heap.size + 1, 0, none⟩ = some (.int .i64 (((scan d).length : Nat) : Int)) := cell_of_row _ _ 0 _ _ _ x1
    have c2 : w2.cell? ⟨w.heap.size + 1 + 1, 0, none⟩ = some (.int .i64 ((sizes (scan d) : Nat) : Int)) := cell_of_row _ _ 0 _ _ _ x2
    obtain ⟨hF, hP⟩ : Below w.heap.size w (w2.putObj D (.deferred none)) ∧ (w2.putObj D (.deferred none)).heap.size = w2.heap.size :=
      ⟨⟨(hbW.trans (hb2.mono hbW.size)).os, (hbW.trans (hb2.mono hbW.size)).tape, (hbW.trans (hb2.mono hbW.size)).output, (by have := (hbW.trans (hb2.mono hbW.size)).size; simpa [World.putObj] using this), fun k hk => (World.putObj_heap_other (by omega)).trans ((hbW.trans (hb2.mono hbW.size)).block k hk)⟩, by simp [World.putObj]⟩
    have HF := Lib.hid hF
    have HK2 := Lib.hid hK2
    clear hF hP x0 x1 x2 h0 h1 h2 hbW hb2 hK hK2 hI0 hcell hdW
    cases bv with
    | false =>
      gi_wp2_with fail
      all_goals (first | refine ⟨by simp, .inl ⟨_, _, rfl, run_takeDeferred HK2.out, ?_⟩⟩ | (exfalso; simp_all [undef]; done))
      all_goals exact ⟨_, results_tmp rfl _ _ _, by rw [HBV.out]; simp, HF.out⟩
    | true =>
      by_cases hk : ((scan d).length : Int) = k
      · cases down with
        | true =>
          gi_wp2_with fail
          all_goals (first | refine ⟨by simp, .inl ⟨_, _, rfl, run_takeDeferred HK2.out, ?_⟩⟩ | (exfalso; simp_all [undef]; done))
          all_goals exact ⟨_, results_tmp rfl _ _ _, by rw [HBV.out]; simp [hk], HF.out⟩
        | false =>
          gi_wp2_with fail
          all_goals (first | refine ⟨by simp, .inl ⟨_, _, rfl, run_takeDeferred HK2.out, ?_⟩⟩ | (exfalso; simp_all [undef]; done))
          all_goals refine ⟨_, results_tmp rfl _ _ _, ?_, HF.out⟩
          all_goals rw [HBV.out]
          all_goals by_cases hs : sizes (scan d) = n
          all_goals simp [hk, hs]
          all_goals omega
      · gi_wp2_with fail
        all_goals (first | refine ⟨by simp, .inl ⟨_, _, rfl, run_takeDeferred HK2.out, ?_⟩⟩ | (exfalso; simp_all [undef]; done))
        all_goals exact ⟨_, results_tmp rfl _ _ _, by rw [HBV.out]; simp [hk], HF.out⟩
end Go.Proofs.Ytbkicepkkcambaa
