/- Post. -/
import Derived.Test.YtmaojcjnpblffaaLedG
namespace Go.Proofs.Ytmaojcjnpblffaa
open Go.RowKit BigFrame

def Led.zero : Led := ⟨0, [], []⟩
def joinsB (a b : List Paid) : Bool := match a.getLast?, b.head? with | some x, some y => decide (x.day ≤ y.day) | _, _ => true
def postR (L : Led) (ps : List Paid) : Led × Int :=
  if validB L = false ∨ (ps.all (fitsB L.start L.due.length) && sortedB (fun a b => a.day - b.day) ps) = false ∨ joinsB L.posts ps = false then (Led.zero, 2)
  else if 4000 < L.posts.length + ps.length then (Led.zero, 5) else (⟨L.start, L.due, L.posts ++ ps⟩, 0)

/-- A call that hands back a ledger in memory of its own, and an error's number. -/
def GivesLed (w : World) (r : Led × Int) (e : Ending) (w' : World) : Prop :=
  ∃ A c A' c', e = .returned (.tuple #[.agg #[.int .i64 r.1.start, .slice A r.1.due.length c, .slice A' r.1.posts.length c'], .int .i64 r.2]) ∧ OwnLed w' w.heap.size A c A' c' r.1 ∧ Below w.heap.size w w'
theorem gives_zero {w w' : World} (n : Int) (h : Below w.heap.size w w') : GivesLed w (Led.zero, n) (.returned (.tuple #[.agg #[.int .i64 0, .slice none 0 0, .slice none 0 0], .int .i64 n])) w' :=
  ⟨none, 0, none, 0, rfl, ⟨World.ownsRow_nil _ _ _ _, World.ownsRow_nil _ _ _ _⟩, h⟩

theorem out_kept {w3 w4 : World} {B n : Nat} {A : Option Addr} {c : Nat} {xs : List Value} {cs : Array Value} {t e : TypeId} {size : Nat} (hg : (w3.alloc (.cells cs t)).grownBy w4 (Value.slice A n c).ownBlock) (h : w3.ownsRow B e size (.slice A n c) n xs) : w4.heap[w3.heap.size]? = some (.cells cs t (0, 0)) :=
  (hg.block w3.heap.size (by simp) (fun e => by have := (h.lt _ e.symm).2; omega)).trans (heap_alloc_new _ _)
theorem out_kept2 {w3 w4 : World} {B n b : Nat} {A : Option Addr} {c : Nat} {xs : List Value} {o : Obj} {e : TypeId} {size : Nat} {x : Option Obj} (hg : (w3.alloc o).grownBy w4 (Value.slice A n c).ownBlock) (h : w3.ownsRow B e size (.slice A n c) n xs) (hb : b < B) (hb3 : b < w3.heap.size) (hx : w3.heap[b]? = x) : w4.heap[b]? = x :=
  ((hg.block b (by simp; omega) (fun e => by have := (h.lt _ e.symm).1; omega)).trans (Below.heap_alloc w3 o b hb3)).trans hx
theorem joins_last {a b : List Paid} {q : Nat} {x y : Paid} (ha : a.length = q + 1) (hx : a[q]? = some x) (hy : b[0]? = some y) : joinsB a b = decide (x.day ≤ y.day) := by
  unfold joinsB
  rw [List.getLast?_eq_getElem?, List.head?_eq_getElem?, hy, ha, Nat.add_sub_cancel, hx]
theorem joins_none {a b : List Paid} (h : a = [] ∨ b = []) : joinsB a b = true := by
  rcases h with rfl | rfl
  · rfl
  · unfold joinsB; cases a.getLast? <;> rfl

set_option maxRecDepth 100000 in
set_option maxHeartbeats 2000000 in
theorem post_any (A : Option Addr) (n c : Nat) (A' : Option Addr) (n' c' : Nat) (B : Option Addr) (k d : Nat) (L : Led) (ps : List Paid) (w : World) (h : LedIn w w.heap.size A n A' n' L) (hp : Posts w w.heap.size B k ps) (hk : k ≤ 1000000) (hwf : ∀ p ∈ ps, p.wf) :
    Calls Try.prog 29 #[.agg #[.int .i64 L.start, .slice A n c, .slice A' n' c'], .slice B k d] w (GivesLed w (postR L ps)) := by
  have KV := fun W hW => Lib.hid (valid_any A n c A' n' c' L W (h.to (w' := W) hW))
  have KP : validB L = true → ∀ W, Below w.heap.size w W → Hid (Calls Try.prog 38 #[.agg #[.int .i64 L.start, .slice A n c, .slice A' n' c'], .slice B k d] W fun e w' => e = .returned (.bool (ps.all (fitsB L.start L.due.length) && sortedB (fun a b => a.day - b.day) ps)) ∧ Below W.heap.size W w') := by
    intro hv W hW
    obtain ⟨⟨s0, s1, s2⟩, _, _, _, _⟩ := valid_here hv
    have hlen := h.due.len
    rw [hlen]
    exact posts_any L.start A A' n c n' c' B k d ps W s0 (by omega) (by omega) ((hp.later (Nat.le_refl _) hW).more hW.size) hk hwf
  have KP' := Lib.hid KP
  clear KP
  generalize hr : (ps.all (fitsB L.start L.due.length) && sortedB (fun a b => a.day - b.day) ps) = r at *
  cases hv : validB L
  · have hr : postR L ps = (Led.zero, 2) := by unfold postR; rw [if_pos (.inl hv)]
    rw [hr]
    clear hr h hp hwf KP' hk
    go_enter Try.func29, Try.ntmps29
    go_wp2_with fail
    have hB0 : Below w.heap.size w ((w.alloc (.cells #[.int .i64 L.start, .slice A n c, .slice A' n' c'] 25)).alloc (.cells #[.int .i64 0, .slice none 0 0, .slice none 0 0] 25)) := by go_grown
    have hz0 : w.heap.size + 1 < ((w.alloc (.cells #[.int .i64 L.start, .slice A n c, .slice A' n' c'] 25)).alloc (.cells #[.int .i64 0, .slice none 0 0, .slice none 0 0] 25)).heap.size := by simp
    have f0 : ((w.alloc (.cells #[.int .i64 L.start, .slice A n c, .slice A' n' c'] 25)).alloc (.cells #[.int .i64 0, .slice none 0 0, .slice none 0 0] 25)).cell? ⟨w.heap.size, 0, none⟩ = some (.int .i64 L.start) := by simp [go_sem]
    have f1 : ((w.alloc (.cells #[.int .i64 L.start, .slice A n c, .slice A' n' c'] 25)).alloc (.cells #[.int .i64 0, .slice none 0 0, .slice none 0 0] 25)).cell? ⟨w.heap.size, 1, none⟩ = some (.slice A n c) := by simp [go_sem]
    have f2 : ((w.alloc (.cells #[.int .i64 L.start, .slice A n c, .slice A' n' c'] 25)).alloc (.cells #[.int .i64 0, .slice none 0 0, .slice none 0 0] 25)).cell? ⟨w.heap.size, 2, none⟩ = some (.slice A' n' c') := by simp [go_sem]
    have g0 : ((w.alloc (.cells #[.int .i64 L.start, .slice A n c, .slice A' n' c'] 25)).alloc (.cells #[.int .i64 0, .slice none 0 0, .slice none 0 0] 25)).heap[w.heap.size + 1]? = some (.cells #[.int .i64 0, .slice none 0 0, .slice none 0 0] 25 (0, 0)) := by
      have e : (w.alloc (.cells #[.int .i64 L.start, .slice A n c, .slice A' n' c'] 25)).heap.size = w.heap.size + 1 := by simp
      rw [← e]
      exact heap_alloc_new _ _
    generalize ((w.alloc (.cells #[.int .i64 L.start, .slice A n c, .slice A' n' c'] 25)).alloc (.cells #[.int .i64 0, .slice none 0 0, .slice none 0 0] 25)) = W0 at *
    have hz0' : w.heap.size < W0.heap.size := by omega
    have F0 := fun p : Later W0 => p.cell (by exact hz0') f0
    have F1 := fun p : Later W0 => p.cell (by exact hz0') f1
    have F2 := fun p : Later W0 => p.cell (by exact hz0') f2
    have G0 := fun p : Later W0 => Lib.hid ((p.ok.block _ hz0).trans g0)
    clear f0 f1 f2 g0
    (refine wp_region_later (by kernel_rfl) (by kernel_rfl) ?_; (repeat (first | go_big_quiet_step ((go_at_call 15; exact Calls.later _ (KV _ (after hB0 (Later.ok _))).out)) | quiet_step ((go_at_call 15; exact Calls.later _ (KV _ (after hB0 (Later.ok _))).out)))); refine wpQuiet_nil ?_; intro _ hw1; obtain ⟨pq, hw2⟩ := hw1; subst hw2)
    clear KV
    have hB1 : Below w.heap.size w pq.val := after hB0 pq.ok
    have g1 := (G0 pq).out
    have hz1 : w.heap.size + 1 < pq.val.heap.size := Nat.lt_of_lt_of_le hz0 pq.ok.size
    generalize pq.val = W1 at *
    have x0 := cell_of_row W1 (w.heap.size + 1) 0 _ _ _ g1
    have x1 := cell_of_row W1 (w.heap.size + 1) 1 _ _ _ g1
    have x2 := cell_of_row W1 (w.heap.size + 1) 2 _ _ _ g1
    have y0 := frozen_of_row W1 (w.heap.size + 1) 0 _ _ g1
    have y1 := frozen_of_row W1 (w.heap.size + 1) 1 _ _ g1
    have y2 := frozen_of_row W1 (w.heap.size + 1) 2 _ _ g1
    simp at x0 x1 x2
    clear F0 F1 F2 G0 g1
    go_wp2
    refine bodyPost_ret (v := .tuple #[.agg #[.int .i64 0, .slice none 0 0, .slice none 0 0], .int .i64 2]) (by simp [results, Try.results29, go_sem, x0, x1, x2]) rfl (gives_zero 2 ?_)
    go_grown
  · have KP := KP'.out hv
    clear KP'
    obtain ⟨⟨_, _, hv3⟩, _, hv4, _, _⟩ := valid_here hv
    cases r
    · have hr : postR L ps = (Led.zero, 2) := by unfold postR; rw [if_pos (.inr (.inl hr))]
      rw [hr]
      clear hr h hp hwf hk
      go_enter Try.func29, Try.ntmps29
      go_wp2_with fail
      have hB0 : Below w.heap.size w ((w.alloc (.cells #[.int .i64 L.start, .slice A n c, .slice A' n' c'] 25)).alloc (.cells #[.int .i64 0, .slice none 0 0, .slice none 0 0] 25)) := by go_grown
      have hz0 : w.heap.size + 1 < ((w.alloc (.cells #[.int .i64 L.start, .slice A n c, .slice A' n' c'] 25)).alloc (.cells #[.int .i64 0, .slice none 0 0, .slice none 0 0] 25)).heap.size := by simp
      have f0 : ((w.alloc (.cells #[.int .i64 L.start, .slice A n c, .slice A' n' c'] 25)).alloc (.cells #[.int .i64 0, .slice none 0 0, .slice none 0 0] 25)).cell? ⟨w.heap.size, 0, none⟩ = some (.int .i64 L.start) := by simp [go_sem]
      have f1 : ((w.alloc (.cells #[.int .i64 L.start, .slice A n c, .slice A' n' c'] 25)).alloc (.cells #[.int .i64 0, .slice none 0 0, .slice none 0 0] 25)).cell? ⟨w.heap.size, 1, none⟩ = some (.slice A n c) := by simp [go_sem]
      have f2 : ((w.alloc (.cells #[.int .i64 L.start, .slice A n c, .slice A' n' c'] 25)).alloc (.cells #[.int .i64 0, .slice none 0 0, .slice none 0 0] 25)).cell? ⟨w.heap.size, 2, none⟩ = some (.slice A' n' c') := by simp [go_sem]
      have g0 : ((w.alloc (.cells #[.int .i64 L.start, .slice A n c, .slice A' n' c'] 25)).alloc (.cells #[.int .i64 0, .slice none 0 0, .slice none 0 0] 25)).heap[w.heap.size + 1]? = some (.cells #[.int .i64 0, .slice none 0 0, .slice none 0 0] 25 (0, 0)) := by
        have e : (w.alloc (.cells #[.int .i64 L.start, .slice A n c, .slice A' n' c'] 25)).heap.size = w.heap.size + 1 := by simp
        rw [← e]
        exact heap_alloc_new _ _
      generalize ((w.alloc (.cells #[.int .i64 L.start, .slice A n c, .slice A' n' c'] 25)).alloc (.cells #[.int .i64 0, .slice none 0 0, .slice none 0 0] 25)) = W0 at *
      have hz0' : w.heap.size < W0.heap.size := by omega
      have F0 := fun p : Later W0 => p.cell (by exact hz0') f0
      have F1 := fun p : Later W0 => p.cell (by exact hz0') f1
      have F2 := fun p : Later W0 => p.cell (by exact hz0') f2
      have G0 := fun p : Later W0 => Lib.hid ((p.ok.block _ hz0).trans g0)
      clear f0 f1 f2 g0
      (refine wp_region_later (by kernel_rfl) (by kernel_rfl) ?_; (repeat (first | go_big_quiet_step ((first | (go_at_call 15; exact Calls.later _ (KV _ (after hB0 (Later.ok _))).out) | (go_at_call 38; exact Calls.later _ (KP _ (after hB0 (Later.ok _))).out))) | quiet_step ((first | (go_at_call 15; exact Calls.later _ (KV _ (after hB0 (Later.ok _))).out) | (go_at_call 38; exact Calls.later _ (KP _ (after hB0 (Later.ok _))).out))))); refine wpQuiet_nil ?_; intro _ hw1; obtain ⟨pq, hw2⟩ := hw1; subst hw2)
      clear KV KP
      have hB1 : Below w.heap.size w pq.val := after hB0 pq.ok
      have g1 := (G0 pq).out
      have hz1 : w.heap.size + 1 < pq.val.heap.size := Nat.lt_of_lt_of_le hz0 pq.ok.size
      generalize pq.val = W1 at *
      have x0 := cell_of_row W1 (w.heap.size + 1) 0 _ _ _ g1
      have x1 := cell_of_row W1 (w.heap.size + 1) 1 _ _ _ g1
      have x2 := cell_of_row W1 (w.heap.size + 1) 2 _ _ _ g1
      have y0 := frozen_of_row W1 (w.heap.size + 1) 0 _ _ g1
      have y1 := frozen_of_row W1 (w.heap.size + 1) 1 _ _ g1
      have y2 := frozen_of_row W1 (w.heap.size + 1) 2 _ _ g1
      simp at x0 x1 x2
      clear F0 F1 F2 G0 g1
      go_wp2
      refine bodyPost_ret (v := .tuple #[.agg #[.int .i64 0, .slice none 0 0, .slice none 0 0], .int .i64 2]) (by simp [results, Try.results29, go_sem, x0, x1, x2]) rfl (gives_zero 2 ?_)
      go_grown
    · have hlen := h.posts.len
      have hlen2 := hp.len
      have hpR : postR L ps = if joinsB L.posts ps = false then (Led.zero, 2) else if 4000 < L.posts.length + ps.length then (Led.zero, 5) else (⟨L.start, L.due, L.posts ++ ps⟩, 0) := by
        unfold postR; rw [hv, hr]; simp
      by_cases hk0 : k = 0
      · have hj : joinsB L.posts ps = true := joins_none (.inr (List.eq_nil_of_length_eq_zero (by omega)))
        by_cases hm : 4000 < L.posts.length + ps.length
        · rw [hpR, hj, if_neg (by simp), if_pos hm]
          rw [hlen, hlen2] at hm
          have hn4 := hv4
          rw [hlen] at hn4
          clear hpR hj h hp hwf hr hlen hlen2 hv4
          have i1 : decide ((0 : Int) < (k : Int)) = false := decide_eq_false (by omega)
          have i2 : decide (0 < k) = false := decide_eq_false (by omega)
          clear hk0
          go_enter Try.func29, Try.ntmps29
          go_wp2_with fail
          have hB0 : Below w.heap.size w ((w.alloc (.cells #[.int .i64 L.start, .slice A n c, .slice A' n' c'] 25)).alloc (.cells #[.int .i64 0, .slice none 0 0, .slice none 0 0] 25)) := by go_grown
          have hz0 : w.heap.size + 1 < ((w.alloc (.cells #[.int .i64 L.start, .slice A n c, .slice A' n' c'] 25)).alloc (.cells #[.int .i64 0, .slice none 0 0, .slice none 0 0] 25)).heap.size := by simp
          have f0 : ((w.alloc (.cells #[.int .i64 L.start, .slice A n c, .slice A' n' c'] 25)).alloc (.cells #[.int .i64 0, .slice none 0 0, .slice none 0 0] 25)).cell? ⟨w.heap.size, 0, none⟩ = some (.int .i64 L.start) := by simp [go_sem]
          have f1 : ((w.alloc (.cells #[.int .i64 L.start, .slice A n c, .slice A' n' c'] 25)).alloc (.cells #[.int .i64 0, .slice none 0 0, .slice none 0 0] 25)).cell? ⟨w.heap.size, 1, none⟩ = some (.slice A n c) := by simp [go_sem]
          have f2 : ((w.alloc (.cells #[.int .i64 L.start, .slice A n c, .slice A' n' c'] 25)).alloc (.cells #[.int .i64 0, .slice none 0 0, .slice none 0 0] 25)).cell? ⟨w.heap.size, 2, none⟩ = some (.slice A' n' c') := by simp [go_sem]
          have g0 : ((w.alloc (.cells #[.int .i64 L.start, .slice A n c, .slice A' n' c'] 25)).alloc (.cells #[.int .i64 0, .slice none 0 0, .slice none 0 0] 25)).heap[w.heap.size + 1]? = some (.cells #[.int .i64 0, .slice none 0 0, .slice none 0 0] 25 (0, 0)) := by
            have e : (w.alloc (.cells #[.int .i64 L.start, .slice A n c, .slice A' n' c'] 25)).heap.size = w.heap.size + 1 := by simp
            rw [← e]
            exact heap_alloc_new _ _
          generalize ((w.alloc (.cells #[.int .i64 L.start, .slice A n c, .slice A' n' c'] 25)).alloc (.cells #[.int .i64 0, .slice none 0 0, .slice none 0 0] 25)) = W0 at *
          have hz0' : w.heap.size < W0.heap.size := by omega
          have F0 := fun p : Later W0 => p.cell (by exact hz0') f0
          have F1 := fun p : Later W0 => p.cell (by exact hz0') f1
          have F2 := fun p : Later W0 => p.cell (by exact hz0') f2
          have G0 := fun p : Later W0 => Lib.hid ((p.ok.block _ hz0).trans g0)
          clear f0 f1 f2 g0
          skip
          (refine wp_region_later (by kernel_rfl) (by kernel_rfl) ?_; (repeat (first | go_big_quiet_step ((first | (go_at_call 15; exact Calls.later _ (KV _ (after hB0 (Later.ok _))).out) | (go_at_call 38; exact Calls.later _ (KP _ (after hB0 (Later.ok _))).out))) | quiet_step ((first | (go_at_call 15; exact Calls.later _ (KV _ (after hB0 (Later.ok _))).out) | (go_at_call 38; exact Calls.later _ (KP _ (after hB0 (Later.ok _))).out))))); refine wpQuiet_nil ?_; intro _ hw1; obtain ⟨pq, hw2⟩ := hw1; subst hw2)
          clear KV KP
          have f2 := F2 pq
          have hB1 : Below w.heap.size w pq.val := after hB0 pq.ok
          have g1 := (G0 pq).out
          have hz1 : w.heap.size + 1 < pq.val.heap.size := Nat.lt_of_lt_of_le hz0 pq.ok.size
          generalize pq.val = W1 at *
          have x0 := cell_of_row W1 (w.heap.size + 1) 0 _ _ _ g1
          have x1 := cell_of_row W1 (w.heap.size + 1) 1 _ _ _ g1
          have x2 := cell_of_row W1 (w.heap.size + 1) 2 _ _ _ g1
          have y0 := frozen_of_row W1 (w.heap.size + 1) 0 _ _ g1
          have y1 := frozen_of_row W1 (w.heap.size + 1) 1 _ _ g1
          have y2 := frozen_of_row W1 (w.heap.size + 1) 2 _ _ g1
          simp at x0 x1 x2
          clear F0 F1 F2 G0 g1
          go_wp2
          refine bodyPost_ret (v := .tuple #[.agg #[.int .i64 0, .slice none 0 0, .slice none 0 0], .int .i64 5]) (by simp [results, Try.results29, go_sem, x0, x1, x2]) rfl (gives_zero 5 ?_)
          go_grown
        · rw [hpR, hj, if_neg (by simp), if_neg hm]
          rw [hlen, hlen2] at hm
          have hn4 := hv4
          rw [hlen] at hn4
          have KO := fun W (hW : Below w.heap.size w W) => Lib.hid (own_any L.start A n c A' n' c' L.due L.posts W (h.to hW).due (h.to hW).posts (by rw [← h.due.len]; have := hv3; omega) (by omega))
          have KR := fun W (hW : Below w.heap.size w W) => Lib.hid (hp.later (Nat.le_refl _) hW).reads
          have hdl := Lib.hid h.due.len
          have Hlen := Lib.hid hlen
          have Hlen2 := Lib.hid hlen2
          clear hpR hj h hp hwf hr hlen hlen2 hv4
          have i1 : decide ((0 : Int) < (k : Int)) = false := decide_eq_false (by omega)
          have i2 : decide (0 < k) = false := decide_eq_false (by omega)
          clear hk0
          go_enter Try.func29, Try.ntmps29
          go_wp2_with fail
          have hB0 : Below w.heap.size w ((w.alloc (.cells #[.int .i64 L.start, .slice A n c, .slice A' n' c'] 25)).alloc (.cells #[.int .i64 0, .slice none 0 0, .slice none 0 0] 25)) := by go_grown
          have hz0 : w.heap.size + 1 < ((w.alloc (.cells #[.int .i64 L.start, .slice A n c, .slice A' n' c'] 25)).alloc (.cells #[.int .i64 0, .slice none 0 0, .slice none 0 0] 25)).heap.size := by simp
          have f0 : ((w.alloc (.cells #[.int .i64 L.start, .slice A n c, .slice A' n' c'] 25)).alloc (.cells #[.int .i64 0, .slice none 0 0, .slice none 0 0] 25)).cell? ⟨w.heap.size, 0, none⟩ = some (.int .i64 L.start) := by simp [go_sem]
          have f1 : ((w.alloc (.cells #[.int .i64 L.start, .slice A n c, .slice A' n' c'] 25)).alloc (.cells #[.int .i64 0, .slice none 0 0, .slice none 0 0] 25)).cell? ⟨w.heap.size, 1, none⟩ = some (.slice A n c) := by simp [go_sem]
          have f2 : ((w.alloc (.cells #[.int .i64 L.start, .slice A n c, .slice A' n' c'] 25)).alloc (.cells #[.int .i64 0, .slice none 0 0, .slice none 0 0] 25)).cell? ⟨w.heap.size, 2, none⟩ = some (.slice A' n' c') := by simp [go_sem]
          have g0 : ((w.alloc (.cells #[.int .i64 L.start, .slice A n c, .slice A' n' c'] 25)).alloc (.cells #[.int .i64 0, .slice none 0 0, .slice none 0 0] 25)).heap[w.heap.size + 1]? = some (.cells #[.int .i64 0, .slice none 0 0, .slice none 0 0] 25 (0, 0)) := by
            have e : (w.alloc (.cells #[.int .i64 L.start, .slice A n c, .slice A' n' c'] 25)).heap.size = w.heap.size + 1 := by simp
            rw [← e]
            exact heap_alloc_new _ _
          generalize ((w.alloc (.cells #[.int .i64 L.start, .slice A n c, .slice A' n' c'] 25)).alloc (.cells #[.int .i64 0, .slice none 0 0, .slice none 0 0] 25)) = W0 at *
          have hz0' : w.heap.size < W0.heap.size := by omega
          have F0 := fun p : Later W0 => p.cell (by exact hz0') f0
          have F1 := fun p : Later W0 => p.cell (by exact hz0') f1
          have F2 := fun p : Later W0 => p.cell (by exact hz0') f2
          have G0 := fun p : Later W0 => Lib.hid ((p.ok.block _ hz0).trans g0)
          clear f0 f1 f2 g0
          skip
          (refine wp_region_later (by kernel_rfl) (by kernel_rfl) ?_; (repeat (first | go_big_quiet_step ((first | (go_at_call 15; exact Calls.later _ (KV _ (after hB0 (Later.ok _))).out) | (go_at_call 38; exact Calls.later _ (KP _ (after hB0 (Later.ok _))).out))) | quiet_step ((first | (go_at_call 15; exact Calls.later _ (KV _ (after hB0 (Later.ok _))).out) | (go_at_call 38; exact Calls.later _ (KP _ (after hB0 (Later.ok _))).out))))); refine wpQuiet_nil ?_; intro _ hw1; obtain ⟨pq, hw2⟩ := hw1; subst hw2)
          clear KV KP
          have hB1 : Below w.heap.size w pq.val := after hB0 pq.ok
          have g1 := (G0 pq).out
          have hz1 : w.heap.size + 1 < pq.val.heap.size := Nat.lt_of_lt_of_le hz0 pq.ok.size
          have f0 := F0 pq
          have f1 := F1 pq
          have f2 := F2 pq
          generalize pq.val = W1 at *
          clear F0 F1 F2 G0 hB0
          go_wp2_with fail
          refine (KO _ hB1).out.mono ?_
          rintro e w3 ⟨A1, c1, A2, c2, rfl, hown1, hown2, hb3⟩
          have hB3 : Below w.heap.size w w3 := after hB1 hb3
          have hz3 : w.heap.size + 1 < w3.heap.size := Nat.lt_of_lt_of_le hz1 hb3.size
          have g3 := (hb3.block _ hz1).trans g1
          have kr := Lib.hid (((KR _ hB3).out).alloc hB3.size (.cells #[.int .i64 L.start, .slice A1 n c1, .slice A2 (n') c2] 25))
          clear KO KR f0 f1 f2 g1
          have hs3 := hb3.size
          go_wp2_with (at_builtin; go_must (refine elemPaid.list_append rfl (.tmp 55) (.tmp 56) rfl rfl (hown2.alloc _) rfl kr.out (paids_one ps) (by unfold maxLen; omega) (by omega) (Nat.le_trans hs3 (World.grownBy_alloc w3 _ none).size) ?_; intro v' w4 hown' hg hat; obtain ⟨A3, c3, hv', _⟩ := own_shape hown'; subst hv'; change (World.alloc w3 _).grownBy w4 (Value.slice A2 (n') c2).ownBlock at hg; change (Value.slice A3 ((n') + k) c3).ownBlock = (Value.slice A2 (n') c2).ownBlock ∨ (Value.slice A3 ((n') + k) c3).ownBlock = some (World.alloc w3 _).heap.size at hat; have ho := out_kept hg hown2; have g4 := out_kept2 hg hown2 hz1 hz3 g3; have q0 : w4.cell? ⟨w3.heap.size, 0, none⟩ = some (.int .i64 L.start) := cell_of_row _ _ 0 _ _ _ ho; have r0 := frozen_of_row _ _ 0 _ _ ho; have q1 : w4.cell? ⟨w3.heap.size, 1, none⟩ = some (.slice A1 n c1) := cell_of_row _ _ 1 _ _ _ ho; have r1 := frozen_of_row _ _ 1 _ _ ho; have q2 : w4.cell? ⟨w3.heap.size, 2, none⟩ = some (.slice A2 (n') c2) := cell_of_row _ _ 2 _ _ _ ho; have r2 := frozen_of_row _ _ 2 _ _ ho; have x0 : w4.cell? ⟨w.heap.size + 1, 0, none⟩ = some (.int .i64 0) := cell_of_row _ _ 0 _ _ _ g4; have y0 := frozen_of_row _ _ 0 _ _ g4; have x1 : w4.cell? ⟨w.heap.size + 1, 1, none⟩ = some (.slice none 0 0) := cell_of_row _ _ 1 _ _ _ g4; have y1 := frozen_of_row _ _ 1 _ _ g4; have x2 : w4.cell? ⟨w.heap.size + 1, 2, none⟩ = some (.slice none 0 0) := cell_of_row _ _ 2 _ _ _ g4; have y2 := frozen_of_row _ _ 2 _ _ g4; have ne1 : ¬ w.heap.size + 1 = w3.heap.size := (by omega); have ne2 : ¬ w3.heap.size = w.heap.size + 1 := (by omega); clear ho g4 g3))
          refine bodyPost_ret (v := .tuple #[.agg #[.int .i64 L.start, .slice A1 n c1, .slice A3 (n' + k) c3], .int .i64 0]) (by simp [results, Try.results29, go_sem, x0, x1, x2]) rfl ?_
          obtain ⟨t1, t2, t3⟩ := end_rows (b := w.heap.size + 1) (B := w.heap.size) hown1 hown2 (by decide) hown' hg hat (by omega) hB3 (by omega) hs3 2 (.slice A3 (n' + k) c3) (.int .i64 L.start) (.slice A1 n c1) (.slice A3 (n' + k) c3)
          refine ⟨A1, c1, A3, c3, ?_, ⟨?_, ?_⟩, t3⟩
          · simp only [List.length_append, hdl.out, Hlen.out, Hlen2.out]
          · simp only [hdl.out]; exact t1
          · simp only [List.length_append, Hlen.out, Hlen2.out, paids_append]; exact t2
      · by_cases hn0 : n' = 0
        · have hj : joinsB L.posts ps = true := joins_none (.inl (List.eq_nil_of_length_eq_zero (by omega)))
          by_cases hm : 4000 < L.posts.length + ps.length
          · rw [hpR, hj, if_neg (by simp), if_pos hm]
            rw [hlen, hlen2] at hm
            have hn4 := hv4
            rw [hlen] at hn4
            clear hpR hj h hp hwf hr hlen hlen2 hv4
            have i1 : decide ((0 : Int) < (n' : Int)) = false := decide_eq_false (by omega)
            have i2 : decide (0 < n') = false := decide_eq_false (by omega)
            have i3 : (0 : Int) < (k : Int) := by omega
            have i4 : 0 < k := by omega
            clear hn0 hk0
            go_enter Try.func29, Try.ntmps29
            go_wp2_with fail
            have hB0 : Below w.heap.size w ((w.alloc (.cells #[.int .i64 L.start, .slice A n c, .slice A' n' c'] 25)).alloc (.cells #[.int .i64 0, .slice none 0 0, .slice none 0 0] 25)) := by go_grown
            have hz0 : w.heap.size + 1 < ((w.alloc (.cells #[.int .i64 L.start, .slice A n c, .slice A' n' c'] 25)).alloc (.cells #[.int .i64 0, .slice none 0 0, .slice none 0 0] 25)).heap.size := by simp
            have f0 : ((w.alloc (.cells #[.int .i64 L.start, .slice A n c, .slice A' n' c'] 25)).alloc (.cells #[.int .i64 0, .slice none 0 0, .slice none 0 0] 25)).cell? ⟨w.heap.size, 0, none⟩ = some (.int .i64 L.start) := by simp [go_sem]
            have f1 : ((w.alloc (.cells #[.int .i64 L.start, .slice A n c, .slice A' n' c'] 25)).alloc (.cells #[.int .i64 0, .slice none 0 0, .slice none 0 0] 25)).cell? ⟨w.heap.size, 1, none⟩ = some (.slice A n c) := by simp [go_sem]
            have f2 : ((w.alloc (.cells #[.int .i64 L.start, .slice A n c, .slice A' n' c'] 25)).alloc (.cells #[.int .i64 0, .slice none 0 0, .slice none 0 0] 25)).cell? ⟨w.heap.size, 2, none⟩ = some (.slice A' n' c') := by simp [go_sem]
            have g0 : ((w.alloc (.cells #[.int .i64 L.start, .slice A n c, .slice A' n' c'] 25)).alloc (.cells #[.int .i64 0, .slice none 0 0, .slice none 0 0] 25)).heap[w.heap.size + 1]? = some (.cells #[.int .i64 0, .slice none 0 0, .slice none 0 0] 25 (0, 0)) := by
              have e : (w.alloc (.cells #[.int .i64 L.start, .slice A n c, .slice A' n' c'] 25)).heap.size = w.heap.size + 1 := by simp
              rw [← e]
              exact heap_alloc_new _ _
            generalize ((w.alloc (.cells #[.int .i64 L.start, .slice A n c, .slice A' n' c'] 25)).alloc (.cells #[.int .i64 0, .slice none 0 0, .slice none 0 0] 25)) = W0 at *
            have hz0' : w.heap.size < W0.heap.size := by omega
            have F0 := fun p : Later W0 => p.cell (by exact hz0') f0
            have F1 := fun p : Later W0 => p.cell (by exact hz0') f1
            have F2 := fun p : Later W0 => p.cell (by exact hz0') f2
            have G0 := fun p : Later W0 => Lib.hid ((p.ok.block _ hz0).trans g0)
            clear f0 f1 f2 g0
            skip
            (refine wp_region_later (by kernel_rfl) (by kernel_rfl) ?_; (repeat (first | go_big_quiet_step ((first | (go_at_call 15; exact Calls.later _ (KV _ (after hB0 (Later.ok _))).out) | (go_at_call 38; exact Calls.later _ (KP _ (after hB0 (Later.ok _))).out))) | quiet_step ((first | (go_at_call 15; exact Calls.later _ (KV _ (after hB0 (Later.ok _))).out) | (go_at_call 38; exact Calls.later _ (KP _ (after hB0 (Later.ok _))).out))))); refine wpQuiet_nil ?_; intro _ hw1; obtain ⟨pq, hw2⟩ := hw1; subst hw2)
            clear KV KP
            have f2 := F2 pq
            have hB1 : Below w.heap.size w pq.val := after hB0 pq.ok
            have g1 := (G0 pq).out
            have hz1 : w.heap.size + 1 < pq.val.heap.size := Nat.lt_of_lt_of_le hz0 pq.ok.size
            generalize pq.val = W1 at *
            have x0 := cell_of_row W1 (w.heap.size + 1) 0 _ _ _ g1
            have x1 := cell_of_row W1 (w.heap.size + 1) 1 _ _ _ g1
            have x2 := cell_of_row W1 (w.heap.size + 1) 2 _ _ _ g1
            have y0 := frozen_of_row W1 (w.heap.size + 1) 0 _ _ g1
            have y1 := frozen_of_row W1 (w.heap.size + 1) 1 _ _ g1
            have y2 := frozen_of_row W1 (w.heap.size + 1) 2 _ _ g1
            simp at x0 x1 x2
            clear F0 F1 F2 G0 g1
            go_wp2
            refine bodyPost_ret (v := .tuple #[.agg #[.int .i64 0, .slice none 0 0, .slice none 0 0], .int .i64 5]) (by simp [results, Try.results29, go_sem, x0, x1, x2]) rfl (gives_zero 5 ?_)
            go_grown
          · rw [hpR, hj, if_neg (by simp), if_neg hm]
            rw [hlen, hlen2] at hm
            have hn4 := hv4
            rw [hlen] at hn4
            have KO := fun W (hW : Below w.heap.size w W) => Lib.hid (own_any L.start A n c A' n' c' L.due L.posts W (h.to hW).due (h.to hW).posts (by rw [← h.due.len]; have := hv3; omega) (by omega))
            have KR := fun W (hW : Below w.heap.size w W) => Lib.hid (hp.later (Nat.le_refl _) hW).reads
            have hdl := Lib.hid h.due.len
            have Hlen := Lib.hid hlen
            have Hlen2 := Lib.hid hlen2
            clear hpR hj h hp hwf hr hlen hlen2 hv4
            have i1 : decide ((0 : Int) < (n' : Int)) = false := decide_eq_false (by omega)
            have i2 : decide (0 < n') = false := decide_eq_false (by omega)
            have i3 : (0 : Int) < (k : Int) := by omega
            have i4 : 0 < k := by omega
            clear hn0 hk0
            go_enter Try.func29, Try.ntmps29
            go_wp2_with fail
            have hB0 : Below w.heap.size w ((w.alloc (.cells #[.int .i64 L.start, .slice A n c, .slice A' n' c'] 25)).alloc (.cells #[.int .i64 0, .slice none 0 0, .slice none 0 0] 25)) := by go_grown
            have hz0 : w.heap.size + 1 < ((w.alloc (.cells #[.int .i64 L.start, .slice A n c, .slice A' n' c'] 25)).alloc (.cells #[.int .i64 0, .slice none 0 0, .slice none 0 0] 25)).heap.size := by simp
            have f0 : ((w.alloc (.cells #[.int .i64 L.start, .slice A n c, .slice A' n' c'] 25)).alloc (.cells #[.int .i64 0, .slice none 0 0, .slice none 0 0] 25)).cell? ⟨w.heap.size, 0, none⟩ = some (.int .i64 L.start) := by simp [go_sem]
            have f1 : ((w.alloc (.cells #[.int .i64 L.start, .slice A n c, .slice A' n' c'] 25)).alloc (.cells #[.int .i64 0, .slice none 0 0, .slice none 0 0] 25)).cell? ⟨w.heap.size, 1, none⟩ = some (.slice A n c) := by simp [go_sem]
            have f2 : ((w.alloc (.cells #[.int .i64 L.start, .slice A n c, .slice A' n' c'] 25)).alloc (.cells #[.int .i64 0, .slice none 0 0, .slice none 0 0] 25)).cell? ⟨w.heap.size, 2, none⟩ = some (.slice A' n' c') := by simp [go_sem]
            have g0 : ((w.alloc (.cells #[.int .i64 L.start, .slice A n c, .slice A' n' c'] 25)).alloc (.cells #[.int .i64 0, .slice none 0 0, .slice none 0 0] 25)).heap[w.heap.size + 1]? = some (.cells #[.int .i64 0, .slice none 0 0, .slice none 0 0] 25 (0, 0)) := by
              have e : (w.alloc (.cells #[.int .i64 L.start, .slice A n c, .slice A' n' c'] 25)).heap.size = w.heap.size + 1 := by simp
              rw [← e]
              exact heap_alloc_new _ _
            generalize ((w.alloc (.cells #[.int .i64 L.start, .slice A n c, .slice A' n' c'] 25)).alloc (.cells #[.int .i64 0, .slice none 0 0, .slice none 0 0] 25)) = W0 at *
            have hz0' : w.heap.size < W0.heap.size := by omega
            have F0 := fun p : Later W0 => p.cell (by exact hz0') f0
            have F1 := fun p : Later W0 => p.cell (by exact hz0') f1
            have F2 := fun p : Later W0 => p.cell (by exact hz0') f2
            have G0 := fun p : Later W0 => Lib.hid ((p.ok.block _ hz0).trans g0)
            clear f0 f1 f2 g0
            skip
            (refine wp_region_later (by kernel_rfl) (by kernel_rfl) ?_; (repeat (first | go_big_quiet_step ((first | (go_at_call 15; exact Calls.later _ (KV _ (after hB0 (Later.ok _))).out) | (go_at_call 38; exact Calls.later _ (KP _ (after hB0 (Later.ok _))).out))) | quiet_step ((first | (go_at_call 15; exact Calls.later _ (KV _ (after hB0 (Later.ok _))).out) | (go_at_call 38; exact Calls.later _ (KP _ (after hB0 (Later.ok _))).out))))); refine wpQuiet_nil ?_; intro _ hw1; obtain ⟨pq, hw2⟩ := hw1; subst hw2)
            clear KV KP
            have hB1 : Below w.heap.size w pq.val := after hB0 pq.ok
            have g1 := (G0 pq).out
            have hz1 : w.heap.size + 1 < pq.val.heap.size := Nat.lt_of_lt_of_le hz0 pq.ok.size
            have f0 := F0 pq
            have f1 := F1 pq
            have f2 := F2 pq
            generalize pq.val = W1 at *
            clear F0 F1 F2 G0 hB0
            go_wp2_with fail
            refine (KO _ hB1).out.mono ?_
            rintro e w3 ⟨A1, c1, A2, c2, rfl, hown1, hown2, hb3⟩
            have hB3 : Below w.heap.size w w3 := after hB1 hb3
            have hz3 : w.heap.size + 1 < w3.heap.size := Nat.lt_of_lt_of_le hz1 hb3.size
            have g3 := (hb3.block _ hz1).trans g1
            have kr := Lib.hid (((KR _ hB3).out).alloc hB3.size (.cells #[.int .i64 L.start, .slice A1 n c1, .slice A2 (n') c2] 25))
            clear KO KR f0 f1 f2 g1
            have hs3 := hb3.size
            go_wp2_with (at_builtin; go_must (refine elemPaid.list_append rfl (.tmp 55) (.tmp 56) rfl rfl (hown2.alloc _) rfl kr.out (paids_one ps) (by unfold maxLen; omega) (by omega) (Nat.le_trans hs3 (World.grownBy_alloc w3 _ none).size) ?_; intro v' w4 hown' hg hat; obtain ⟨A3, c3, hv', _⟩ := own_shape hown'; subst hv'; change (World.alloc w3 _).grownBy w4 (Value.slice A2 (n') c2).ownBlock at hg; change (Value.slice A3 ((n') + k) c3).ownBlock = (Value.slice A2 (n') c2).ownBlock ∨ (Value.slice A3 ((n') + k) c3).ownBlock = some (World.alloc w3 _).heap.size at hat; have ho := out_kept hg hown2; have g4 := out_kept2 hg hown2 hz1 hz3 g3; have q0 : w4.cell? ⟨w3.heap.size, 0, none⟩ = some (.int .i64 L.start) := cell_of_row _ _ 0 _ _ _ ho; have r0 := frozen_of_row _ _ 0 _ _ ho; have q1 : w4.cell? ⟨w3.heap.size, 1, none⟩ = some (.slice A1 n c1) := cell_of_row _ _ 1 _ _ _ ho; have r1 := frozen_of_row _ _ 1 _ _ ho; have q2 : w4.cell? ⟨w3.heap.size, 2, none⟩ = some (.slice A2 (n') c2) := cell_of_row _ _ 2 _ _ _ ho; have r2 := frozen_of_row _ _ 2 _ _ ho; have x0 : w4.cell? ⟨w.heap.size + 1, 0, none⟩ = some (.int .i64 0) := cell_of_row _ _ 0 _ _ _ g4; have y0 := frozen_of_row _ _ 0 _ _ g4; have x1 : w4.cell? ⟨w.heap.size + 1, 1, none⟩ = some (.slice none 0 0) := cell_of_row _ _ 1 _ _ _ g4; have y1 := frozen_of_row _ _ 1 _ _ g4; have x2 : w4.cell? ⟨w.heap.size + 1, 2, none⟩ = some (.slice none 0 0) := cell_of_row _ _ 2 _ _ _ g4; have y2 := frozen_of_row _ _ 2 _ _ g4; have ne1 : ¬ w.heap.size + 1 = w3.heap.size := (by omega); have ne2 : ¬ w3.heap.size = w.heap.size + 1 := (by omega); clear ho g4 g3))
            refine bodyPost_ret (v := .tuple #[.agg #[.int .i64 L.start, .slice A1 n c1, .slice A3 (n' + k) c3], .int .i64 0]) (by simp [results, Try.results29, go_sem, x0, x1, x2]) rfl ?_
            obtain ⟨t1, t2, t3⟩ := end_rows (b := w.heap.size + 1) (B := w.heap.size) hown1 hown2 (by decide) hown' hg hat (by omega) hB3 (by omega) hs3 2 (.slice A3 (n' + k) c3) (.int .i64 L.start) (.slice A1 n c1) (.slice A3 (n' + k) c3)
            refine ⟨A1, c1, A3, c3, ?_, ⟨?_, ?_⟩, t3⟩
            · simp only [List.length_append, hdl.out, Hlen.out, Hlen2.out]
            · simp only [hdl.out]; exact t1
            · simp only [List.length_append, Hlen.out, Hlen2.out, paids_append]; exact t2
        · obtain ⟨q, rfl⟩ : ∃ q, n' = q + 1 := ⟨n' - 1, by omega⟩
          obtain ⟨x, b, o, hx, rfl, hbB, cx, _⟩ := h.posts.at_ (i := q) (by omega)
          obtain ⟨y, b2, o2, hy, rfl, hbB2, cy, _⟩ := hp.at_ (i := 0) (by omega)
          have hj := joins_last hlen hx hy
          simp only [Nat.zero_mul, Nat.add_zero] at cy
          have hn1 := h.n1
          by_cases hd : x.day ≤ y.day
          · rw [decide_eq_true hd] at hj
            by_cases hm : 4000 < L.posts.length + ps.length
            · rw [hpR, hj, if_neg (by simp), if_pos hm]
              rw [hlen, hlen2] at hm
              have hn4 := hv4
              rw [hlen] at hn4
              clear hpR hj h hp hwf hr hlen hlen2 hv4
              have i1 : (0 : Int) < (k : Int) := by omega
              have i1' : 0 < k := by omega
              have i2 : IntKind.i64.wrap ((q : Int) + 1 - 1) = q := by rw [show (q : Int) + 1 - 1 = q by omega]; exact IntWalk.i64_in _ (by omega)
              have i3 : (0 : Int) < (q : Int) + 1 := by omega
              have i4 : (q : Int) < (q : Int) + 1 := by omega
              have i5 : decide (y.day < x.day) = false := decide_eq_false (by omega)
              clear hx hy hn0 hk0
              go_enter Try.func29, Try.ntmps29
              go_wp2_with fail
              have hB0 : Below w.heap.size w ((w.alloc (.cells #[.int .i64 L.start, .slice A n c, .slice (some ⟨b, o, none⟩) (q + 1) c'] 25)).alloc (.cells #[.int .i64 0, .slice none 0 0, .slice none 0 0] 25)) := by go_grown
              have hz0 : w.heap.size + 1 < ((w.alloc (.cells #[.int .i64 L.start, .slice A n c, .slice (some ⟨b, o, none⟩) (q + 1) c'] 25)).alloc (.cells #[.int .i64 0, .slice none 0 0, .slice none 0 0] 25)).heap.size := by simp
              have f0 : ((w.alloc (.cells #[.int .i64 L.start, .slice A n c, .slice (some ⟨b, o, none⟩) (q + 1) c'] 25)).alloc (.cells #[.int .i64 0, .slice none 0 0, .slice none 0 0] 25)).cell? ⟨w.heap.size, 0, none⟩ = some (.int .i64 L.start) := by simp [go_sem]
              have f1 : ((w.alloc (.cells #[.int .i64 L.start, .slice A n c, .slice (some ⟨b, o, none⟩) (q + 1) c'] 25)).alloc (.cells #[.int .i64 0, .slice none 0 0, .slice none 0 0] 25)).cell? ⟨w.heap.size, 1, none⟩ = some (.slice A n c) := by simp [go_sem]
              have f2 : ((w.alloc (.cells #[.int .i64 L.start, .slice A n c, .slice (some ⟨b, o, none⟩) (q + 1) c'] 25)).alloc (.cells #[.int .i64 0, .slice none 0 0, .slice none 0 0] 25)).cell? ⟨w.heap.size, 2, none⟩ = some (.slice (some ⟨b, o, none⟩) (q + 1) c') := by simp [go_sem]
              have g0 : ((w.alloc (.cells #[.int .i64 L.start, .slice A n c, .slice (some ⟨b, o, none⟩) (q + 1) c'] 25)).alloc (.cells #[.int .i64 0, .slice none 0 0, .slice none 0 0] 25)).heap[w.heap.size + 1]? = some (.cells #[.int .i64 0, .slice none 0 0, .slice none 0 0] 25 (0, 0)) := by
                have e : (w.alloc (.cells #[.int .i64 L.start, .slice A n c, .slice (some ⟨b, o, none⟩) (q + 1) c'] 25)).heap.size = w.heap.size + 1 := by simp
                rw [← e]
                exact heap_alloc_new _ _
              generalize ((w.alloc (.cells #[.int .i64 L.start, .slice A n c, .slice (some ⟨b, o, none⟩) (q + 1) c'] 25)).alloc (.cells #[.int .i64 0, .slice none 0 0, .slice none 0 0] 25)) = W0 at *
              have hz0' : w.heap.size < W0.heap.size := by omega
              have F0 := fun p : Later W0 => p.cell (by exact hz0') f0
              have F1 := fun p : Later W0 => p.cell (by exact hz0') f1
              have F2 := fun p : Later W0 => p.cell (by exact hz0') f2
              have G0 := fun p : Later W0 => Lib.hid ((p.ok.block _ hz0).trans g0)
              clear f0 f1 f2 g0
              have CX := fun p : Later W0 => p.cell (a := ⟨b, o + q * 4, none⟩) (Nat.lt_of_lt_of_le hbB hB0.size) ((hB0.cell (by exact hbB)).trans cx)
              have CY := fun p : Later W0 => p.cell (a := ⟨b2, o2, none⟩) (Nat.lt_of_lt_of_le hbB2 hB0.size) ((hB0.cell (by exact hbB2)).trans cy)
              clear cx cy
              (refine wp_region_later (by kernel_rfl) (by kernel_rfl) ?_; (repeat (first | go_big_quiet_step ((first | (go_at_call 15; exact Calls.later _ (KV _ (after hB0 (Later.ok _))).out) | (go_at_call 38; exact Calls.later _ (KP _ (after hB0 (Later.ok _))).out))) | quiet_step ((first | (go_at_call 15; exact Calls.later _ (KV _ (after hB0 (Later.ok _))).out) | (go_at_call 38; exact Calls.later _ (KP _ (after hB0 (Later.ok _))).out))))); refine wpQuiet_nil ?_; intro _ hw1; obtain ⟨pq, hw2⟩ := hw1; subst hw2)
              clear KV KP
              have f2 := F2 pq
              have hB1 : Below w.heap.size w pq.val := after hB0 pq.ok
              have g1 := (G0 pq).out
              have hz1 : w.heap.size + 1 < pq.val.heap.size := Nat.lt_of_lt_of_le hz0 pq.ok.size
              generalize pq.val = W1 at *
              have x0 := cell_of_row W1 (w.heap.size + 1) 0 _ _ _ g1
              have x1 := cell_of_row W1 (w.heap.size + 1) 1 _ _ _ g1
              have x2 := cell_of_row W1 (w.heap.size + 1) 2 _ _ _ g1
              have y0 := frozen_of_row W1 (w.heap.size + 1) 0 _ _ g1
              have y1 := frozen_of_row W1 (w.heap.size + 1) 1 _ _ g1
              have y2 := frozen_of_row W1 (w.heap.size + 1) 2 _ _ g1
              simp at x0 x1 x2
              clear F0 F1 F2 G0 g1
              go_wp2
              refine bodyPost_ret (v := .tuple #[.agg #[.int .i64 0, .slice none 0 0, .slice none 0 0], .int .i64 5]) (by simp [results, Try.results29, go_sem, x0, x1, x2]) rfl (gives_zero 5 ?_)
              go_grown
            · rw [hpR, hj, if_neg (by simp), if_neg hm]
              rw [hlen, hlen2] at hm
              have hn4 := hv4
              rw [hlen] at hn4
              have KO := fun W (hW : Below w.heap.size w W) => Lib.hid (own_any L.start A n c (some ⟨b, o, none⟩) (q + 1) c' L.due L.posts W (h.to hW).due (h.to hW).posts (by rw [← h.due.len]; have := hv3; omega) (by omega))
              have KR := fun W (hW : Below w.heap.size w W) => Lib.hid (hp.later (Nat.le_refl _) hW).reads
              have hdl := Lib.hid h.due.len
              have Hlen := Lib.hid hlen
              have Hlen2 := Lib.hid hlen2
              clear hpR hj h hp hwf hr hlen hlen2 hv4
              have i1 : (0 : Int) < (k : Int) := by omega
              have i1' : 0 < k := by omega
              have i2 : IntKind.i64.wrap ((q : Int) + 1 - 1) = q := by rw [show (q : Int) + 1 - 1 = q by omega]; exact IntWalk.i64_in _ (by omega)
              have i3 : (0 : Int) < (q : Int) + 1 := by omega
              have i4 : (q : Int) < (q : Int) + 1 := by omega
              have i5 : decide (y.day < x.day) = false := decide_eq_false (by omega)
              clear hx hy hn0 hk0
              go_enter Try.func29, Try.ntmps29
              go_wp2_with fail
              have hB0 : Below w.heap.size w ((w.alloc (.cells #[.int .i64 L.start, .slice A n c, .slice (some ⟨b, o, none⟩) (q + 1) c'] 25)).alloc (.cells #[.int .i64 0, .slice none 0 0, .slice none 0 0] 25)) := by go_grown
              have hz0 : w.heap.size + 1 < ((w.alloc (.cells #[.int .i64 L.start, .slice A n c, .slice (some ⟨b, o, none⟩) (q + 1) c'] 25)).alloc (.cells #[.int .i64 0, .slice none 0 0, .slice none 0 0] 25)).heap.size := by simp
              have f0 : ((w.alloc (.cells #[.int .i64 L.start, .slice A n c, .slice (some ⟨b, o, none⟩) (q + 1) c'] 25)).alloc (.cells #[.int .i64 0, .slice none 0 0, .slice none 0 0] 25)).cell? ⟨w.heap.size, 0, none⟩ = some (.int .i64 L.start) := by simp [go_sem]
              have f1 : ((w.alloc (.cells #[.int .i64 L.start, .slice A n c, .slice (some ⟨b, o, none⟩) (q + 1) c'] 25)).alloc (.cells #[.int .i64 0, .slice none 0 0, .slice none 0 0] 25)).cell? ⟨w.heap.size, 1, none⟩ = some (.slice A n c) := by simp [go_sem]
              have f2 : ((w.alloc (.cells #[.int .i64 L.start, .slice A n c, .slice (some ⟨b, o, none⟩) (q + 1) c'] 25)).alloc (.cells #[.int .i64 0, .slice none 0 0, .slice none 0 0] 25)).cell? ⟨w.heap.size, 2, none⟩ = some (.slice (some ⟨b, o, none⟩) (q + 1) c') := by simp [go_sem]
              have g0 : ((w.alloc (.cells #[.int .i64 L.start, .slice A n c, .slice (some ⟨b, o, none⟩) (q + 1) c'] 25)).alloc (.cells #[.int .i64 0, .slice none 0 0, .slice none 0 0] 25)).heap[w.heap.size + 1]? = some (.cells #[.int .i64 0, .slice none 0 0, .slice none 0 0] 25 (0, 0)) := by
                have e : (w.alloc (.cells #[.int .i64 L.start, .slice A n c, .slice (some ⟨b, o, none⟩) (q + 1) c'] 25)).heap.size = w.heap.size + 1 := by simp
                rw [← e]
                exact heap_alloc_new _ _
              generalize ((w.alloc (.cells #[.int .i64 L.start, .slice A n c, .slice (some ⟨b, o, none⟩) (q + 1) c'] 25)).alloc (.cells #[.int .i64 0, .slice none 0 0, .slice none 0 0] 25)) = W0 at *
              have hz0' : w.heap.size < W0.heap.size := by omega
              have F0 := fun p : Later W0 => p.cell (by exact hz0') f0
              have F1 := fun p : Later W0 => p.cell (by exact hz0') f1
              have F2 := fun p : Later W0 => p.cell (by exact hz0') f2
              have G0 := fun p : Later W0 => Lib.hid ((p.ok.block _ hz0).trans g0)
              clear f0 f1 f2 g0
              have CX := fun p : Later W0 => p.cell (a := ⟨b, o + q * 4, none⟩) (Nat.lt_of_lt_of_le hbB hB0.size) ((hB0.cell (by exact hbB)).trans cx)
              have CY := fun p : Later W0 => p.cell (a := ⟨b2, o2, none⟩) (Nat.lt_of_lt_of_le hbB2 hB0.size) ((hB0.cell (by exact hbB2)).trans cy)
              clear cx cy
              (refine wp_region_later (by kernel_rfl) (by kernel_rfl) ?_; (repeat (first | go_big_quiet_step ((first | (go_at_call 15; exact Calls.later _ (KV _ (after hB0 (Later.ok _))).out) | (go_at_call 38; exact Calls.later _ (KP _ (after hB0 (Later.ok _))).out))) | quiet_step ((first | (go_at_call 15; exact Calls.later _ (KV _ (after hB0 (Later.ok _))).out) | (go_at_call 38; exact Calls.later _ (KP _ (after hB0 (Later.ok _))).out))))); refine wpQuiet_nil ?_; intro _ hw1; obtain ⟨pq, hw2⟩ := hw1; subst hw2)
              clear KV KP
              have hB1 : Below w.heap.size w pq.val := after hB0 pq.ok
              have g1 := (G0 pq).out
              have hz1 : w.heap.size + 1 < pq.val.heap.size := Nat.lt_of_lt_of_le hz0 pq.ok.size
              have f0 := F0 pq
              have f1 := F1 pq
              have f2 := F2 pq
              generalize pq.val = W1 at *
              clear F0 F1 F2 G0 hB0
              go_wp2_with fail
              refine (KO _ hB1).out.mono ?_
              rintro e w3 ⟨A1, c1, A2, c2, rfl, hown1, hown2, hb3⟩
              have hB3 : Below w.heap.size w w3 := after hB1 hb3
              have hz3 : w.heap.size + 1 < w3.heap.size := Nat.lt_of_lt_of_le hz1 hb3.size
              have g3 := (hb3.block _ hz1).trans g1
              have kr := Lib.hid (((KR _ hB3).out).alloc hB3.size (.cells #[.int .i64 L.start, .slice A1 n c1, .slice A2 ((q + 1)) c2] 25))
              clear KO KR f0 f1 f2 g1
              have hs3 := hb3.size
              go_wp2_with (at_builtin; go_must (refine elemPaid.list_append rfl (.tmp 55) (.tmp 56) rfl rfl (hown2.alloc _) rfl kr.out (paids_one ps) (by unfold maxLen; omega) (by omega) (Nat.le_trans hs3 (World.grownBy_alloc w3 _ none).size) ?_; intro v' w4 hown' hg hat; obtain ⟨A3, c3, hv', _⟩ := own_shape hown'; subst hv'; change (World.alloc w3 _).grownBy w4 (Value.slice A2 ((q + 1)) c2).ownBlock at hg; change (Value.slice A3 (((q + 1)) + k) c3).ownBlock = (Value.slice A2 ((q + 1)) c2).ownBlock ∨ (Value.slice A3 (((q + 1)) + k) c3).ownBlock = some (World.alloc w3 _).heap.size at hat; have ho := out_kept hg hown2; have g4 := out_kept2 hg hown2 hz1 hz3 g3; have q0 : w4.cell? ⟨w3.heap.size, 0, none⟩ = some (.int .i64 L.start) := cell_of_row _ _ 0 _ _ _ ho; have r0 := frozen_of_row _ _ 0 _ _ ho; have q1 : w4.cell? ⟨w3.heap.size, 1, none⟩ = some (.slice A1 n c1) := cell_of_row _ _ 1 _ _ _ ho; have r1 := frozen_of_row _ _ 1 _ _ ho; have q2 : w4.cell? ⟨w3.heap.size, 2, none⟩ = some (.slice A2 ((q + 1)) c2) := cell_of_row _ _ 2 _ _ _ ho; have r2 := frozen_of_row _ _ 2 _ _ ho; have x0 : w4.cell? ⟨w.heap.size + 1, 0, none⟩ = some (.int .i64 0) := cell_of_row _ _ 0 _ _ _ g4; have y0 := frozen_of_row _ _ 0 _ _ g4; have x1 : w4.cell? ⟨w.heap.size + 1, 1, none⟩ = some (.slice none 0 0) := cell_of_row _ _ 1 _ _ _ g4; have y1 := frozen_of_row _ _ 1 _ _ g4; have x2 : w4.cell? ⟨w.heap.size + 1, 2, none⟩ = some (.slice none 0 0) := cell_of_row _ _ 2 _ _ _ g4; have y2 := frozen_of_row _ _ 2 _ _ g4; have ne1 : ¬ w.heap.size + 1 = w3.heap.size := (by omega); have ne2 : ¬ w3.heap.size = w.heap.size + 1 := (by omega); clear ho g4 g3))
              refine bodyPost_ret (v := .tuple #[.agg #[.int .i64 L.start, .slice A1 n c1, .slice A3 ((q + 1) + k) c3], .int .i64 0]) (by simp [results, Try.results29, go_sem, x0, x1, x2]) rfl ?_
              obtain ⟨t1, t2, t3⟩ := end_rows (b := w.heap.size + 1) (B := w.heap.size) hown1 hown2 (by decide) hown' hg hat (by omega) hB3 (by omega) hs3 2 (.slice A3 ((q + 1) + k) c3) (.int .i64 L.start) (.slice A1 n c1) (.slice A3 ((q + 1) + k) c3)
              refine ⟨A1, c1, A3, c3, ?_, ⟨?_, ?_⟩, t3⟩
              · simp only [List.length_append, hdl.out, Hlen.out, Hlen2.out]
              · simp only [hdl.out]; exact t1
              · simp only [List.length_append, Hlen.out, Hlen2.out, paids_append]; exact t2
          · rw [decide_eq_false hd] at hj
            rw [hpR, if_pos hj]
            have hd' : y.day < x.day := by omega
            clear hpR hj h hp hwf hx hy hr hlen hlen2
            go_enter Try.func29, Try.ntmps29
            go_wp2_with fail
            have hB0 : Below w.heap.size w ((w.alloc (.cells #[.int .i64 L.start, .slice A n c, .slice (some ⟨b, o, none⟩) (q + 1) c'] 25)).alloc (.cells #[.int .i64 0, .slice none 0 0, .slice none 0 0] 25)) := by go_grown
            have hz0 : w.heap.size + 1 < ((w.alloc (.cells #[.int .i64 L.start, .slice A n c, .slice (some ⟨b, o, none⟩) (q + 1) c'] 25)).alloc (.cells #[.int .i64 0, .slice none 0 0, .slice none 0 0] 25)).heap.size := by simp
            have f0 : ((w.alloc (.cells #[.int .i64 L.start, .slice A n c, .slice (some ⟨b, o, none⟩) (q + 1) c'] 25)).alloc (.cells #[.int .i64 0, .slice none 0 0, .slice none 0 0] 25)).cell? ⟨w.heap.size, 0, none⟩ = some (.int .i64 L.start) := by simp [go_sem]
            have f1 : ((w.alloc (.cells #[.int .i64 L.start, .slice A n c, .slice (some ⟨b, o, none⟩) (q + 1) c'] 25)).alloc (.cells #[.int .i64 0, .slice none 0 0, .slice none 0 0] 25)).cell? ⟨w.heap.size, 1, none⟩ = some (.slice A n c) := by simp [go_sem]
            have f2 : ((w.alloc (.cells #[.int .i64 L.start, .slice A n c, .slice (some ⟨b, o, none⟩) (q + 1) c'] 25)).alloc (.cells #[.int .i64 0, .slice none 0 0, .slice none 0 0] 25)).cell? ⟨w.heap.size, 2, none⟩ = some (.slice (some ⟨b, o, none⟩) (q + 1) c') := by simp [go_sem]
            have g0 : ((w.alloc (.cells #[.int .i64 L.start, .slice A n c, .slice (some ⟨b, o, none⟩) (q + 1) c'] 25)).alloc (.cells #[.int .i64 0, .slice none 0 0, .slice none 0 0] 25)).heap[w.heap.size + 1]? = some (.cells #[.int .i64 0, .slice none 0 0, .slice none 0 0] 25 (0, 0)) := by
              have e : (w.alloc (.cells #[.int .i64 L.start, .slice A n c, .slice (some ⟨b, o, none⟩) (q + 1) c'] 25)).heap.size = w.heap.size + 1 := by simp
              rw [← e]
              exact heap_alloc_new _ _
            generalize ((w.alloc (.cells #[.int .i64 L.start, .slice A n c, .slice (some ⟨b, o, none⟩) (q + 1) c'] 25)).alloc (.cells #[.int .i64 0, .slice none 0 0, .slice none 0 0] 25)) = W0 at *
            have hz0' : w.heap.size < W0.heap.size := by omega
            have F0 := fun p : Later W0 => p.cell (by exact hz0') f0
            have F1 := fun p : Later W0 => p.cell (by exact hz0') f1
            have F2 := fun p : Later W0 => p.cell (by exact hz0') f2
            have G0 := fun p : Later W0 => Lib.hid ((p.ok.block _ hz0).trans g0)
            clear f0 f1 f2 g0
            have CX := fun p : Later W0 => p.cell (a := ⟨b, o + q * 4, none⟩) (Nat.lt_of_lt_of_le hbB hB0.size) ((hB0.cell (by exact hbB)).trans cx)
            have CY := fun p : Later W0 => p.cell (a := ⟨b2, o2, none⟩) (Nat.lt_of_lt_of_le hbB2 hB0.size) ((hB0.cell (by exact hbB2)).trans cy)
            have i1 : (0 : Int) < (k : Int) := by omega
            have i1' : 0 < k := by omega
            have i2 : IntKind.i64.wrap ((q : Int) + 1 - 1) = q := by rw [show (q : Int) + 1 - 1 = q by omega]; exact IntWalk.i64_in _ (by omega)
            have i3 : (0 : Int) < (q : Int) + 1 := by omega
            have i4 : (q : Int) < (q : Int) + 1 := by omega
            clear cx cy
            (refine wp_region_later (by kernel_rfl) (by kernel_rfl) ?_; (repeat (first | go_big_quiet_step ((first | (go_at_call 15; exact Calls.later _ (KV _ (after hB0 (Later.ok _))).out) | (go_at_call 38; exact Calls.later _ (KP _ (after hB0 (Later.ok _))).out))) | quiet_step ((first | (go_at_call 15; exact Calls.later _ (KV _ (after hB0 (Later.ok _))).out) | (go_at_call 38; exact Calls.later _ (KP _ (after hB0 (Later.ok _))).out))))); refine wpQuiet_nil ?_; intro _ hw1; obtain ⟨pq, hw2⟩ := hw1; subst hw2)
            clear KV KP CX CY
            have hB1 : Below w.heap.size w pq.val := after hB0 pq.ok
            have g1 := (G0 pq).out
            have hz1 : w.heap.size + 1 < pq.val.heap.size := Nat.lt_of_lt_of_le hz0 pq.ok.size
            generalize pq.val = W1 at *
            have x0 := cell_of_row W1 (w.heap.size + 1) 0 _ _ _ g1
            have x1 := cell_of_row W1 (w.heap.size + 1) 1 _ _ _ g1
            have x2 := cell_of_row W1 (w.heap.size + 1) 2 _ _ _ g1
            have y0 := frozen_of_row W1 (w.heap.size + 1) 0 _ _ g1
            have y1 := frozen_of_row W1 (w.heap.size + 1) 1 _ _ g1
            have y2 := frozen_of_row W1 (w.heap.size + 1) 2 _ _ g1
            simp at x0 x1 x2
            clear F0 F1 F2 G0 g1
            go_wp2
            refine bodyPost_ret (v := .tuple #[.agg #[.int .i64 0, .slice none 0 0, .slice none 0 0], .int .i64 2]) (by simp [results, Try.results29, go_sem, x0, x1, x2]) rfl (gives_zero 2 ?_)
            go_grown
end Go.Proofs.Ytmaojcjnpblffaa
