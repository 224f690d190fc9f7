/- Learn. -/
import Derived.Test.YtmaojcjnpblffaaLedH
namespace Go.Proofs.Ytmaojcjnpblffaa
open Go.RowKit BigFrame

def learnR (L : Led) (m d : Int) : Led × Int :=
  if validB L = false ∨ amtB d = false ∨ (hasB L.start L.due.length m = false ∧ m ≠ L.start + L.due.length) then (Led.zero, 2)
  else if m = L.start + L.due.length ∧ (L.due.length = 1200 ∨ 2400 ≤ m) then (Led.zero, 5)
  else if m = L.start + L.due.length then (⟨L.start, L.due ++ [d], L.posts⟩, 0) else (⟨L.start, L.due.set (m - L.start).toNat d, L.posts⟩, 0)

theorem ints_set (l : List Int) (k : Nat) (d : Int) : (ints l).set k (.int .i64 d) = ints (l.set k d) := by simp [ints, List.map_set]
theorem ints_snoc_set (l : List Int) (d : Int) : (ints l ++ [Value.int .i64 0]).set l.length (.int .i64 d) = ints (l ++ [d]) := by
  simp [ints]

/-- Behind the append of one month: where things lie. -/
theorem learn_mid {w3 w4 : World} {base n c1 b : Nat} {A1 : Option Addr} {due : List Int} {v' s0 s1 s2 : Value} {cs : Array Value} {t tp : TypeId} (h1 : w3.ownsRow base 3 1 (.slice A1 n c1) n (ints due))
    (hown' : w4.ownsRow base 3 1 v' (n + 1) (ints due ++ [Value.int .i64 0]))
    (hg : ((w3.alloc (.cells #[s0, s1, s2] t)).alloc (.cells cs tp)).grownBy w4 (Value.slice A1 n c1).ownBlock)
    (hat : v'.ownBlock = (Value.slice A1 n c1).ownBlock ∨ v'.ownBlock = some ((w3.alloc (.cells #[s0, s1, s2] t)).alloc (.cells cs tp)).heap.size)
    (hb : b < base) (hb3 : base ≤ w3.heap.size) {z0 z1 z2 : Value} {st : Value} (hx : w3.heap[b]? = some (.cells #[z0, z1, z2] t (0, 0))) {b0 : Nat} (hb0 : b0 < base) (hst : w3.cell? ⟨b0, 0, none⟩ = some st) :
    ∃ g c3, v' = .slice (some ⟨g, 0, none⟩) (n + 1) c3 ∧ base ≤ g ∧ g < w4.heap.size ∧ (¬ g = w3.heap.size ∧ ¬ w3.heap.size = g ∧ ¬ g = b ∧ ¬ b = g) ∧
      (w4.cell? ⟨w3.heap.size, 0, none⟩ = some s0 ∧ w4.cell? ⟨w3.heap.size, 1, none⟩ = some s1 ∧ w4.cell? ⟨w3.heap.size, 2, none⟩ = some s2) ∧
      (w4.frozen? ⟨w3.heap.size, 0, none⟩ = false ∧ w4.frozen? ⟨w3.heap.size, 1, none⟩ = false ∧ w4.frozen? ⟨w3.heap.size, 2, none⟩ = false) ∧
      (w4.cell? ⟨b, 0, none⟩ = some z0 ∧ w4.cell? ⟨b, 1, none⟩ = some z1 ∧ w4.cell? ⟨b, 2, none⟩ = some z2) ∧
      (w4.frozen? ⟨b, 0, none⟩ = false ∧ w4.frozen? ⟨b, 1, none⟩ = false ∧ w4.frozen? ⟨b, 2, none⟩ = false) ∧
      (w4.cell? ⟨g, n, none⟩ = some (.int .i64 0) ∧ w4.frozen? ⟨g, n, none⟩ = false) ∧ w4.cell? ⟨b0, 0, none⟩ = some st := by
  obtain ⟨A3, c3, rfl, _⟩ := own_shape hown'
  obtain ⟨g, rfl, hg1, hg2⟩ := own_some hown' (by omega)
  have hlen : (ints due).length = n := by have := h1.1; omega
  have k1 : ∀ k, (Value.slice A1 n c1).ownBlock = some k → base ≤ k ∧ k < w3.heap.size := h1.lt
  have hgne : ¬ g = w3.heap.size := by
    rcases hat with e | e
    · have := (k1 g e.symm).2; omega
    · simp [Value.ownBlock] at e; omega
  have keep : ∀ k, k < w3.heap.size → (∀ j, (Value.slice A1 n c1).ownBlock = some j → j ≠ k) → w4.heap[k]? = w3.heap[k]? := fun k hk hne =>
    ((hg.block k (by simp; omega) (fun e => hne k e.symm rfl)).trans (Below.heap_alloc _ _ k (by simp; omega))).trans (Below.heap_alloc _ _ k hk)
  have hs : w4.heap[w3.heap.size]? = some (.cells #[s0, s1, s2] t (0, 0)) :=
    ((hg.block w3.heap.size (by first | omega | (simp; done) | (simp; omega)) (fun e => by have := (k1 _ e.symm).2; omega)).trans (Below.heap_alloc _ _ _ (by simp))).trans (heap_alloc_new _ _)
  have hbb : w4.heap[b]? = some (.cells #[z0, z1, z2] t (0, 0)) := (keep b (by omega) fun j hj => by have := k1 j hj; omega).trans hx
  have h0 : w4.cell? ⟨b0, 0, none⟩ = some st := (World.cell?_of_block (w := w3) (a := ⟨b0, 0, none⟩) (keep b0 (by omega) fun j hj => by have := k1 j hj; omega)).trans hst
  refine ⟨g, c3, rfl, hg1, hg2, ⟨hgne, fun e => hgne e.symm, by omega, by omega⟩, ⟨cell_of_row w4 _ 0 _ _ _ hs, cell_of_row w4 _ 1 _ _ _ hs, cell_of_row w4 _ 2 _ _ _ hs⟩, ⟨frozen_of_row w4 _ _ _ _ hs, frozen_of_row w4 _ _ _ _ hs, frozen_of_row w4 _ _ _ _ hs⟩,
    ⟨cell_of_row w4 _ 0 _ _ _ hbb, cell_of_row w4 _ 1 _ _ _ hbb, cell_of_row w4 _ 2 _ _ _ hbb⟩, ⟨frozen_of_row w4 _ _ _ _ hbb, frozen_of_row w4 _ _ _ _ hbb, frozen_of_row w4 _ _ _ _ hbb⟩, ⟨?_, hown'.frozenAt n⟩, h0⟩
  rw [hown'.cellAt n (by omega), List.getElem?_append_right (by omega), hlen, Nat.sub_self]
  rfl

/-- At the end: both rows, in memory of the call's own. -/
theorem learn_end {w w3 w4 : World} {base n n' c1 c2 c3 b g : Nat} {A1 A2 : Option Addr} {due : List Int} {xs2 : List Value} {o o' : Obj} {e2 s2 : Nat} (h1 : w3.ownsRow base 3 1 (.slice A1 n c1) n (ints due)) (h2 : w3.ownsRow base e2 s2 (.slice A2 n' c2) n' xs2) (hne : 3 ≠ e2)
    (hown' : w4.ownsRow base 3 1 (.slice (some ⟨g, 0, none⟩) (n + 1) c3) (n + 1) (ints due ++ [Value.int .i64 0])) (hg : ((w3.alloc o).alloc o').grownBy w4 (Value.slice A1 n c1).ownBlock)
    (hgg : base ≤ g ∧ ¬ g = w3.heap.size)
    (hb : b < base) (hw : Below w.heap.size w w3) (hB : w.heap.size ≤ b) (hs : base ≤ w3.heap.size) (d : Int) (u0 u1 u2 u3 : Value) :
    (((((w4.setCell ⟨w3.heap.size, 1, none⟩ u0).setCell ⟨g, n, none⟩ (.int .i64 d)).setCell ⟨b, 0, none⟩ u1).setCell ⟨b, 1, none⟩ u2).setCell ⟨b, 2, none⟩ u3).ownsRow w.heap.size 3 1 (.slice (some ⟨g, 0, none⟩) (n + 1) c3) (n + 1) (ints (due ++ [d])) ∧
    (((((w4.setCell ⟨w3.heap.size, 1, none⟩ u0).setCell ⟨g, n, none⟩ (.int .i64 d)).setCell ⟨b, 0, none⟩ u1).setCell ⟨b, 1, none⟩ u2).setCell ⟨b, 2, none⟩ u3).ownsRow w.heap.size e2 s2 (.slice A2 n' c2) n' xs2 ∧
    Below w.heap.size w (((((w4.setCell ⟨w3.heap.size, 1, none⟩ u0).setCell ⟨g, n, none⟩ (.int .i64 d)).setCell ⟨b, 0, none⟩ u1).setCell ⟨b, 1, none⟩ u2).setCell ⟨b, 2, none⟩ u3) := by
  have k1 : ∀ k, (Value.slice A1 n c1).ownBlock = some k → base ≤ k ∧ k < w3.heap.size := h1.lt
  have k2 : ∀ k, (Value.slice A2 n' c2).ownBlock = some k → base ≤ k ∧ k < w3.heap.size := h2.lt
  have hlen : due.length = n := by have := h1.1; simp [ints] at this; exact this
  have t2 : w4.ownsRow base e2 s2 (.slice A2 n' c2) n' xs2 := own_grown ((h2.alloc o).alloc o') hg fun k hk => own_ne h2 h1 (Ne.symm hne) hk
  have hgb : ∀ k', (Value.slice A2 n' c2).ownBlock = some k' → k' ≠ g := by
    intro k' hk' e
    subst e
    exact own_ne hown' t2 hne (k := k') rfl hk'
  have b1 : ∀ k', (Value.slice (some ⟨g, 0, none⟩) (n + 1) c3).ownBlock = some k' → k' ≠ b := fun k' hk' => by cases hk'; dsimp only; omega
  have b2 : ∀ k', (Value.slice A2 n' c2).ownBlock = some k' → k' ≠ b := fun k' hk' => by have := k2 k' hk'; omega
  have b3 : ∀ k', (Value.slice (some ⟨g, 0, none⟩) (n + 1) c3).ownBlock = some k' → k' ≠ w3.heap.size := fun k' hk' => by cases hk'; exact hgg.2
  have b4 : ∀ k', (Value.slice A2 n' c2).ownBlock = some k' → k' ≠ w3.heap.size := fun k' hk' => by have := k2 k' hk'; omega
  refine ⟨?_, ?_, ?_⟩
  · have := ((own_set hown' (p := ⟨w3.heap.size, 1, none⟩) (by exact b3) u0).stored n (.int .i64 d)).1
    rw [← hlen, ints_snoc_set, hlen] at this
    exact own_more (own_set (own_set (own_set this (by exact b1) _) (by exact b1) _) (by exact b1) _) (by omega)
  · exact own_more (own_set (own_set (own_set (own_set (own_set t2 (by exact b4) _) (by exact hgb) _) (by exact b2) _) (by exact b2) _) (by exact b2) _) (by omega)
  · exact (((((((hw.alloc (by omega) o).alloc (by simp; omega) o').grown hg (by simp; omega) fun k hk => by have := k1 k hk; omega).setCell (by dsimp only; omega) u0).setCell (by dsimp only; omega) _).setCell (by dsimp only; omega) u1).setCell (by dsimp only; omega) u2).setCell (by dsimp only; omega) u3

set_option maxRecDepth 100000 in
set_option maxHeartbeats 3000000 in
theorem learn_any (A : Option Addr) (n c : Nat) (A' : Option Addr) (n' c' : Nat) (L : Led) (m d : Int) (w : World) (h : LedIn w w.heap.size A n A' n' L) (hm : -9223372036854775808 ≤ m ∧ m ≤ 9223372036854775807) :
    Calls Try.prog 13 #[.agg #[.int .i64 L.start, .slice A n c, .slice A' n' c'], .int .i64 m, .int .i64 d] w (GivesLed w (learnR L m d)) := by
  have KV := fun W hW => Lib.hid (valid_any A n c A' n' c' L W (h.to (w' := W) hW))
  cases hv : validB L
  · have hr : learnR L m d = (Led.zero, 2) := by unfold learnR; rw [if_pos (.inl hv)]
    rw [hr]
    clear hr h
    go_enter Try.func13, Try.ntmps13
    go_wp2_with fail
    refine (KV _ (by go_grown)).out.mono ?_
    rintro e w1 ⟨rfl, hb1⟩
    have hB1 : Below w.heap.size w w1 := after (by go_grown) hb1
    have hz1 : w.heap.size + 1 < w1.heap.size := Nat.lt_of_lt_of_le (by first | omega | (simp; done) | (simp; omega)) hb1.size
    obtain ⟨hc1, hf1⟩ := bcell hb1
    have p0 : w1.cell? ⟨w.heap.size, 0, none⟩ = some (.int .i64 L.start) := by rw [hc1 _ _ (by first | omega | (simp; done) | (simp; omega))]; simp [go_sem]
    have p1 : w1.cell? ⟨w.heap.size, 1, none⟩ = some (.slice A n c) := by rw [hc1 _ _ (by first | omega | (simp; done) | (simp; omega))]; simp [go_sem]
    have p2 : w1.cell? ⟨w.heap.size, 2, none⟩ = some (.slice A' n' c') := by rw [hc1 _ _ (by first | omega | (simp; done) | (simp; omega))]; simp [go_sem]
    have p3 : w1.heap[w.heap.size + 1]? = some (.cells #[.int .i64 0, .slice none 0 0, .slice none 0 0] 25 (0, 0)) := by
      rw [hb1.block _ (by first | omega | (simp; done) | (simp; omega))]
      have e : (w.alloc (.cells #[.int .i64 L.start, .slice A n c, .slice A' n' c'] 25)).heap.size = w.heap.size + 1 := by simp
      rw [← e]
      exact heap_alloc_new _ _
    clear KV hc1 hf1 hb1
    have P3 := Lib.hid p3
    clear p3
    have g1 := P3.out
    have x0 := cell_of_row w1 (w.heap.size + 1) 0 _ _ _ g1
    have x1 := cell_of_row w1 (w.heap.size + 1) 1 _ _ _ g1
    have x2 := cell_of_row w1 (w.heap.size + 1) 2 _ _ _ g1
    have y0 := frozen_of_row w1 (w.heap.size + 1) 0 _ _ g1
    have y1 := frozen_of_row w1 (w.heap.size + 1) 1 _ _ g1
    have y2 := frozen_of_row w1 (w.heap.size + 1) 2 _ _ g1
    simp at x0 x1 x2
    clear g1
    go_wp2
    refine bodyPost_ret (v := .tuple #[.agg #[.int .i64 0, .slice none 0 0, .slice none 0 0], .int .i64 2]) (by simp [results, Try.results13, go_sem, x0, x1, x2]) rfl (gives_zero 2 ?_)
    go_grown
  · cases ha : amtB d
    · have hr : learnR L m d = (Led.zero, 2) := by unfold learnR; rw [if_pos (.inr (.inl ha))]
      rw [hr]
      clear hr h
      go_enter Try.func13, Try.ntmps13
      go_wp2_with fail
      refine (KV _ (by go_grown)).out.mono ?_
      rintro e w1 ⟨rfl, hb1⟩
      have hB1 : Below w.heap.size w w1 := after (by go_grown) hb1
      have hz1 : w.heap.size + 1 < w1.heap.size := Nat.lt_of_lt_of_le (by first | omega | (simp; done) | (simp; omega)) hb1.size
      obtain ⟨hc1, hf1⟩ := bcell hb1
      have p0 : w1.cell? ⟨w.heap.size, 0, none⟩ = some (.int .i64 L.start) := by rw [hc1 _ _ (by first | omega | (simp; done) | (simp; omega))]; simp [go_sem]
      have p1 : w1.cell? ⟨w.heap.size, 1, none⟩ = some (.slice A n c) := by rw [hc1 _ _ (by first | omega | (simp; done) | (simp; omega))]; simp [go_sem]
      have p2 : w1.cell? ⟨w.heap.size, 2, none⟩ = some (.slice A' n' c') := by rw [hc1 _ _ (by first | omega | (simp; done) | (simp; omega))]; simp [go_sem]
      have p3 : w1.heap[w.heap.size + 1]? = some (.cells #[.int .i64 0, .slice none 0 0, .slice none 0 0] 25 (0, 0)) := by
        rw [hb1.block _ (by first | omega | (simp; done) | (simp; omega))]
        have e : (w.alloc (.cells #[.int .i64 L.start, .slice A n c, .slice A' n' c'] 25)).heap.size = w.heap.size + 1 := by simp
        rw [← e]
        exact heap_alloc_new _ _
      clear KV hc1 hf1 hb1
      have P3 := Lib.hid p3
      clear p3
      go_wp2_with fail
      refine (amount_any _ _).mono ?_
      rintro e w2 ⟨rfl, rfl⟩
      have g1 := P3.out
      have x0 := cell_of_row w1 (w.heap.size + 1) 0 _ _ _ g1
      have x1 := cell_of_row w1 (w.heap.size + 1) 1 _ _ _ g1
      have x2 := cell_of_row w1 (w.heap.size + 1) 2 _ _ _ g1
      have y0 := frozen_of_row w1 (w.heap.size + 1) 0 _ _ g1
      have y1 := frozen_of_row w1 (w.heap.size + 1) 1 _ _ g1
      have y2 := frozen_of_row w1 (w.heap.size + 1) 2 _ _ g1
      simp at x0 x1 x2
      clear g1
      go_wp2
      refine bodyPost_ret (v := .tuple #[.agg #[.int .i64 0, .slice none 0 0, .slice none 0 0], .int .i64 2]) (by simp [results, Try.results13, go_sem, x0, x1, x2]) rfl (gives_zero 2 ?_)
      go_grown
    · obtain ⟨⟨s0, s1, s2⟩, _, v4, _, _⟩ := valid_here hv
      have hlen := h.due.len
      have KH : ∀ W, Hid (Calls Try.prog 34 #[.agg #[.int .i64 L.start, .slice A n c, .slice A' n' c'], .int .i64 m] W fun e w' => e = .returned (.bool (hasB L.start L.due.length m)) ∧ Below W.heap.size W w') :=
        fun W => hlen ▸ has_any L.start A A' n c n' c' m W s0 (by omega) (by omega) hm.2
      have KO := fun W (hW : Below w.heap.size w W) => Lib.hid (own_any L.start A n c A' n' c' L.due L.posts W (h.to hW).due (h.to hW).posts (by omega) (by have := h.posts.len; omega))
      have hdl := Lib.hid h.due.len
      have hpl := Lib.hid h.posts.len
      by_cases hne : m = L.start + L.due.length
      · have hh : hasB L.start L.due.length m = false := decide_eq_false (by omega)
        have hnn : (m != L.start + (n : Int)) = false := by rw [bne_eq_false_iff_eq, ← hlen]; exact hne
        have hnn' : (m == L.start + (n : Int)) = true := by rw [beq_iff_eq, ← hlen]; exact hne
        have bn : (n : Int) ≤ 1200 := by omega
        have bs : L.start ≤ 2400 := by omega
        by_cases hbig : L.due.length = 1200 ∨ 2400 ≤ m
        · have hr : learnR L m d = (Led.zero, 5) := by
            unfold learnR
            rw [if_neg (by simp [hv, ha, hne]), if_pos ⟨hne, hbig⟩]
          rw [hr]
          rw [hlen] at hbig
          clear KO hr h hlen hne s1 s2
          by_cases h12 : n = 1200
          · have h12' : ((n : Int) == 1200) = true := by rw [beq_iff_eq]; omega
            clear hbig h12
            go_enter Try.func13, Try.ntmps13
            go_wp2_with fail
            refine (KV _ (by go_grown)).out.mono ?_
            rintro e w1 ⟨rfl, hb1⟩
            have hB1 : Below w.heap.size w w1 := after (by go_grown) hb1
            have hz1 : w.heap.size + 1 < w1.heap.size := Nat.lt_of_lt_of_le (by first | omega | (simp; done) | (simp; omega)) hb1.size
            obtain ⟨hc1, hf1⟩ := bcell hb1
            have p0 : w1.cell? ⟨w.heap.size, 0, none⟩ = some (.int .i64 L.start) := by rw [hc1 _ _ (by first | omega | (simp; done) | (simp; omega))]; simp [go_sem]
            have p1 : w1.cell? ⟨w.heap.size, 1, none⟩ = some (.slice A n c) := by rw [hc1 _ _ (by first | omega | (simp; done) | (simp; omega))]; simp [go_sem]
            have p2 : w1.cell? ⟨w.heap.size, 2, none⟩ = some (.slice A' n' c') := by rw [hc1 _ _ (by first | omega | (simp; done) | (simp; omega))]; simp [go_sem]
            have p3 : w1.heap[w.heap.size + 1]? = some (.cells #[.int .i64 0, .slice none 0 0, .slice none 0 0] 25 (0, 0)) := by
              rw [hb1.block _ (by first | omega | (simp; done) | (simp; omega))]
              have e : (w.alloc (.cells #[.int .i64 L.start, .slice A n c, .slice A' n' c'] 25)).heap.size = w.heap.size + 1 := by simp
              rw [← e]
              exact heap_alloc_new _ _
            clear KV hc1 hf1 hb1
            have P3 := Lib.hid p3
            clear p3
            go_wp2_with fail
            refine (amount_any _ _).mono ?_
            rintro e w2 ⟨rfl, rfl⟩
            go_wp2_with fail
            refine (KH _).out.mono ?_
            rintro e w2 ⟨rfl, hb2⟩
            have hB2 : Below w.heap.size w w2 := after hB1 hb2
            have hz2 : w.heap.size + 1 < w2.heap.size := Nat.lt_of_lt_of_le hz1 hb2.size
            obtain ⟨s0, s1, s2⟩ := held3 (b := w.heap.size) hb2 (by omega) ⟨p0, p1, p2⟩
            have P4 := Lib.hid ((hb2.block _ hz1).trans P3.out)
            clear KH hb2 p0 p1 p2 P3
            have g1 := P4.out
            have x0 := cell_of_row w2 (w.heap.size + 1) 0 _ _ _ g1
            have x1 := cell_of_row w2 (w.heap.size + 1) 1 _ _ _ g1
            have x2 := cell_of_row w2 (w.heap.size + 1) 2 _ _ _ g1
            have y0 := frozen_of_row w2 (w.heap.size + 1) 0 _ _ g1
            have y1 := frozen_of_row w2 (w.heap.size + 1) 1 _ _ g1
            have y2 := frozen_of_row w2 (w.heap.size + 1) 2 _ _ g1
            simp at x0 x1 x2
            clear g1
            go_wp2
            refine bodyPost_ret (v := .tuple #[.agg #[.int .i64 0, .slice none 0 0, .slice none 0 0], .int .i64 5]) (by simp [results, Try.results13, go_sem, x0, x1, x2]) rfl (gives_zero 5 ?_)
            go_grown
          · have h24 : 2400 ≤ m := by omega
            have h12' : ((n : Int) == 1200) = false := by rw [beq_eq_false_iff_ne]; omega
            clear hbig h12
            go_enter Try.func13, Try.ntmps13
            go_wp2_with fail
            refine (KV _ (by go_grown)).out.mono ?_
            rintro e w1 ⟨rfl, hb1⟩
            have hB1 : Below w.heap.size w w1 := after (by go_grown) hb1
            have hz1 : w.heap.size + 1 < w1.heap.size := Nat.lt_of_lt_of_le (by first | omega | (simp; done) | (simp; omega)) hb1.size
            obtain ⟨hc1, hf1⟩ := bcell hb1
            have p0 : w1.cell? ⟨w.heap.size, 0, none⟩ = some (.int .i64 L.start) := by rw [hc1 _ _ (by first | omega | (simp; done) | (simp; omega))]; simp [go_sem]
            have p1 : w1.cell? ⟨w.heap.size, 1, none⟩ = some (.slice A n c) := by rw [hc1 _ _ (by first | omega | (simp; done) | (simp; omega))]; simp [go_sem]
            have p2 : w1.cell? ⟨w.heap.size, 2, none⟩ = some (.slice A' n' c') := by rw [hc1 _ _ (by first | omega | (simp; done) | (simp; omega))]; simp [go_sem]
            have p3 : w1.heap[w.heap.size + 1]? = some (.cells #[.int .i64 0, .slice none 0 0, .slice none 0 0] 25 (0, 0)) := by
              rw [hb1.block _ (by first | omega | (simp; done) | (simp; omega))]
              have e : (w.alloc (.cells #[.int .i64 L.start, .slice A n c, .slice A' n' c'] 25)).heap.size = w.heap.size + 1 := by simp
              rw [← e]
              exact heap_alloc_new _ _
            clear KV hc1 hf1 hb1
            have P3 := Lib.hid p3
            clear p3
            go_wp2_with fail
            refine (amount_any _ _).mono ?_
            rintro e w2 ⟨rfl, rfl⟩
            go_wp2_with fail
            refine (KH _).out.mono ?_
            rintro e w2 ⟨rfl, hb2⟩
            have hB2 : Below w.heap.size w w2 := after hB1 hb2
            have hz2 : w.heap.size + 1 < w2.heap.size := Nat.lt_of_lt_of_le hz1 hb2.size
            obtain ⟨s0, s1, s2⟩ := held3 (b := w.heap.size) hb2 (by omega) ⟨p0, p1, p2⟩
            have P4 := Lib.hid ((hb2.block _ hz1).trans P3.out)
            clear KH hb2 p0 p1 p2 P3
            have g1 := P4.out
            have x0 := cell_of_row w2 (w.heap.size + 1) 0 _ _ _ g1
            have x1 := cell_of_row w2 (w.heap.size + 1) 1 _ _ _ g1
            have x2 := cell_of_row w2 (w.heap.size + 1) 2 _ _ _ g1
            have y0 := frozen_of_row w2 (w.heap.size + 1) 0 _ _ g1
            have y1 := frozen_of_row w2 (w.heap.size + 1) 1 _ _ g1
            have y2 := frozen_of_row w2 (w.heap.size + 1) 2 _ _ g1
            simp at x0 x1 x2
            clear g1
            go_wp2
            refine bodyPost_ret (v := .tuple #[.agg #[.int .i64 0, .slice none 0 0, .slice none 0 0], .int .i64 5]) (by simp [results, Try.results13, go_sem, x0, x1, x2]) rfl (gives_zero 5 ?_)
            go_grown
        · have hr : learnR L m d = (⟨L.start, L.due ++ [d], L.posts⟩, 0) := by
            unfold learnR
            rw [if_neg (by simp [hv, ha, hne]), if_neg (fun hx => hbig hx.2), if_pos hne]
          rw [hr]
          rw [hlen] at hbig hne
          have h12' : ((n : Int) == 1200) = false := by rw [beq_eq_false_iff_ne]; omega
          have h24 : m < 2400 := by omega
          have ek : IntKind.i64.wrap (m - L.start) = n := by rw [show m - L.start = n by omega]; exact IntWalk.i64_in _ (by omega)
          have ek' : m - L.start = n := by omega
          have n13 : n < 1200 := by omega
          clear hr h hlen hne s1 s2 hbig
          go_enter Try.func13, Try.ntmps13
          go_wp2_with fail
          refine (KV _ (by go_grown)).out.mono ?_
          rintro e w1 ⟨rfl, hb1⟩
          have hB1 : Below w.heap.size w w1 := after (by go_grown) hb1
          have hz1 : w.heap.size + 1 < w1.heap.size := Nat.lt_of_lt_of_le (by first | omega | (simp; done) | (simp; omega)) hb1.size
          obtain ⟨hc1, hf1⟩ := bcell hb1
          have p0 : w1.cell? ⟨w.heap.size, 0, none⟩ = some (.int .i64 L.start) := by rw [hc1 _ _ (by first | omega | (simp; done) | (simp; omega))]; simp [go_sem]
          have p1 : w1.cell? ⟨w.heap.size, 1, none⟩ = some (.slice A n c) := by rw [hc1 _ _ (by first | omega | (simp; done) | (simp; omega))]; simp [go_sem]
          have p2 : w1.cell? ⟨w.heap.size, 2, none⟩ = some (.slice A' n' c') := by rw [hc1 _ _ (by first | omega | (simp; done) | (simp; omega))]; simp [go_sem]
          have p3 : w1.heap[w.heap.size + 1]? = some (.cells #[.int .i64 0, .slice none 0 0, .slice none 0 0] 25 (0, 0)) := by
            rw [hb1.block _ (by first | omega | (simp; done) | (simp; omega))]
            have e : (w.alloc (.cells #[.int .i64 L.start, .slice A n c, .slice A' n' c'] 25)).heap.size = w.heap.size + 1 := by simp
            rw [← e]
            exact heap_alloc_new _ _
          clear KV hc1 hf1 hb1
          have P3 := Lib.hid p3
          clear p3
          go_wp2_with fail
          refine (amount_any _ _).mono ?_
          rintro e w2 ⟨rfl, rfl⟩
          go_wp2_with fail
          refine (KH _).out.mono ?_
          rintro e w2 ⟨rfl, hb2⟩
          have hB2 : Below w.heap.size w w2 := after hB1 hb2
          have hz2 : w.heap.size + 1 < w2.heap.size := Nat.lt_of_lt_of_le hz1 hb2.size
          obtain ⟨s0, s1, s2⟩ := held3 (b := w.heap.size) hb2 (by omega) ⟨p0, p1, p2⟩
          have P4 := Lib.hid ((hb2.block _ hz1).trans P3.out)
          clear KH hb2 p0 p1 p2 P3
          go_wp2_with fail
          refine (KO _ hB2).out.mono ?_
          rintro e w3 ⟨A1, c1, A2, c2, rfl, hown1, hown2, hb3⟩
          have hB3 : Below w.heap.size w w3 := after hB2 hb3
          have hz3 : w.heap.size + 1 < w3.heap.size := Nat.lt_of_lt_of_le hz2 hb3.size
          obtain ⟨q0, q1, q2⟩ := held3 (b := w.heap.size) hb3 (by omega) ⟨s0, s1, s2⟩
          have P5 := Lib.hid ((hb3.block _ hz2).trans P4.out)
          have hz3' : w.heap.size < w3.heap.size := by omega
          have hz23 := hb3.size
          clear KO s0 s1 s2 P4
          go_wp2_with (at_builtin; go_must (refine elemInt.list_append rfl (.tmp 58) (.tmp 59) rfl rfl ((hown1.alloc _).alloc _) rfl (reads_one _ _ _ (by simp)) (ints_one [0]) (by unfold maxLen; omega) (by omega) (Nat.le_trans hz23 (Nat.le_trans (World.grownBy_alloc w3 _ none).size (World.grownBy_alloc _ _ none).size)) ?_; intro v' w4 hown' hg hat; change (World.alloc _ _).grownBy w4 (Value.slice A1 n c1).ownBlock at hg; change v'.ownBlock = (Value.slice A1 n c1).ownBlock ∨ v'.ownBlock = some (World.alloc _ _).heap.size at hat; obtain ⟨g, c3, hv', hgb, hgl, ⟨n1, n2, n3, n4⟩, ⟨r0, r1, r2⟩, ⟨f0, f1, f2⟩, ⟨x0, x1, x2⟩, ⟨y0, y1, y2⟩, ⟨t0, t1⟩, s0⟩ := learn_mid (b := w.heap.size + 1) (b0 := w.heap.size) hown1 hown' hg hat hz2 hz23 P5.out (Nat.lt_of_succ_lt hz2) q0; subst hv'; have n5 : ¬ w.heap.size + 1 = w3.heap.size := (by omega); have n6 : ¬ w3.heap.size = w.heap.size + 1 := (by omega); have n7 : ¬ w.heap.size = w3.heap.size := (by omega); clear q0 q1 q2))
          refine bodyPost_ret (v := .tuple #[.agg #[.int .i64 L.start, .slice (some ⟨g, 0, none⟩) (n + 1) c3, .slice A2 n' c2], .int .i64 0]) (by simp [results, Try.results13, go_sem, x0, x1, x2]) rfl ?_
          obtain ⟨e1, e2, e3⟩ := learn_end (w := w) (b := w.heap.size + 1) hown1 hown2 (by decide) hown' hg ⟨hgb, n1⟩ hz2 hB3 (by omega) hz23 d (.slice (some ⟨g, 0, none⟩) (n + 1) c3) (.int .i64 L.start) (.slice (some ⟨g, 0, none⟩) (n + 1) c3) (.slice A2 n' c2)
          refine ⟨some ⟨g, 0, none⟩, c3, A2, c2, ?_, ⟨?_, ?_⟩, e3⟩
          · simp only [List.length_append, List.length_cons, List.length_nil, hdl.out, hpl.out]
          · simp only [List.length_append, List.length_cons, List.length_nil, hdl.out]
            exact e1
          · simp only [hpl.out]
            exact e2
      · cases hh : hasB L.start L.due.length m
        · have hr : learnR L m d = (Led.zero, 2) := by unfold learnR; rw [if_pos (.inr (.inr ⟨hh, hne⟩))]
          rw [hr]
          have hnn : (m != L.start + (n : Int)) = true := by rw [bne_iff_ne, ← hlen]; exact hne
          have bn : (n : Int) ≤ 1200 := by omega
          have bs : L.start ≤ 2400 := by omega
          clear hr h hlen hne KO s1 s2
          go_enter Try.func13, Try.ntmps13
          go_wp2_with fail
          refine (KV _ (by go_grown)).out.mono ?_
          rintro e w1 ⟨rfl, hb1⟩
          have hB1 : Below w.heap.size w w1 := after (by go_grown) hb1
          have hz1 : w.heap.size + 1 < w1.heap.size := Nat.lt_of_lt_of_le (by first | omega | (simp; done) | (simp; omega)) hb1.size
          obtain ⟨hc1, hf1⟩ := bcell hb1
          have p0 : w1.cell? ⟨w.heap.size, 0, none⟩ = some (.int .i64 L.start) := by rw [hc1 _ _ (by first | omega | (simp; done) | (simp; omega))]; simp [go_sem]
          have p1 : w1.cell? ⟨w.heap.size, 1, none⟩ = some (.slice A n c) := by rw [hc1 _ _ (by first | omega | (simp; done) | (simp; omega))]; simp [go_sem]
          have p2 : w1.cell? ⟨w.heap.size, 2, none⟩ = some (.slice A' n' c') := by rw [hc1 _ _ (by first | omega | (simp; done) | (simp; omega))]; simp [go_sem]
          have p3 : w1.heap[w.heap.size + 1]? = some (.cells #[.int .i64 0, .slice none 0 0, .slice none 0 0] 25 (0, 0)) := by
            rw [hb1.block _ (by first | omega | (simp; done) | (simp; omega))]
            have e : (w.alloc (.cells #[.int .i64 L.start, .slice A n c, .slice A' n' c'] 25)).heap.size = w.heap.size + 1 := by simp
            rw [← e]
            exact heap_alloc_new _ _
          clear KV hc1 hf1 hb1
          have P3 := Lib.hid p3
          clear p3
          go_wp2_with fail
          refine (amount_any _ _).mono ?_
          rintro e w2 ⟨rfl, rfl⟩
          go_wp2_with fail
          refine (KH _).out.mono ?_
          rintro e w2 ⟨rfl, hb2⟩
          have hB2 : Below w.heap.size w w2 := after hB1 hb2
          have hz2 : w.heap.size + 1 < w2.heap.size := Nat.lt_of_lt_of_le hz1 hb2.size
          obtain ⟨s0, s1, s2⟩ := held3 (b := w.heap.size) hb2 (by omega) ⟨p0, p1, p2⟩
          have P4 := Lib.hid ((hb2.block _ hz1).trans P3.out)
          clear KH hb2 p0 p1 p2 P3
          have g1 := P4.out
          have x0 := cell_of_row w2 (w.heap.size + 1) 0 _ _ _ g1
          have x1 := cell_of_row w2 (w.heap.size + 1) 1 _ _ _ g1
          have x2 := cell_of_row w2 (w.heap.size + 1) 2 _ _ _ g1
          have y0 := frozen_of_row w2 (w.heap.size + 1) 0 _ _ g1
          have y1 := frozen_of_row w2 (w.heap.size + 1) 1 _ _ g1
          have y2 := frozen_of_row w2 (w.heap.size + 1) 2 _ _ g1
          simp at x0 x1 x2
          clear g1
          go_wp2
          refine bodyPost_ret (v := .tuple #[.agg #[.int .i64 0, .slice none 0 0, .slice none 0 0], .int .i64 2]) (by simp [results, Try.results13, go_sem, x0, x1, x2]) rfl (gives_zero 2 ?_)
          go_grown
        · have hh' := of_decide_eq_true hh
          obtain ⟨k, hk⟩ : ∃ k : Nat, m = L.start + k := ⟨(m - L.start).toNat, by omega⟩
          have hr : learnR L m d = (⟨L.start, L.due.set k d, L.posts⟩, 0) := by
            unfold learnR
            rw [if_neg (by simp [hv, ha, hh]), if_neg (fun hx => hne hx.1), if_neg hne, show (m - L.start).toNat = k by omega]
          rw [hr]
          have hkn : k < n := by omega
          have hnn : (L.start + (k : Int) == L.start + (n : Int)) = false := by rw [beq_eq_false_iff_ne]; omega
          have bn : (n : Int) ≤ 1200 := by omega
          have bs : L.start ≤ 2400 := by omega
          subst hk
          have ek : IntKind.i64.wrap (L.start + (k : Int) - L.start) = k := by rw [show L.start + (k : Int) - L.start = k by omega]; exact IntWalk.i64_in _ (by omega)
          have ek' : L.start + (k : Int) - L.start = k := by omega
          clear hr h hlen hne hh' s1 s2
          go_enter Try.func13, Try.ntmps13
          go_wp2_with fail
          refine (KV _ (by go_grown)).out.mono ?_
          rintro e w1 ⟨rfl, hb1⟩
          have hB1 : Below w.heap.size w w1 := after (by go_grown) hb1
          have hz1 : w.heap.size + 1 < w1.heap.size := Nat.lt_of_lt_of_le (by first | omega | (simp; done) | (simp; omega)) hb1.size
          obtain ⟨hc1, hf1⟩ := bcell hb1
          have p0 : w1.cell? ⟨w.heap.size, 0, none⟩ = some (.int .i64 L.start) := by rw [hc1 _ _ (by first | omega | (simp; done) | (simp; omega))]; simp [go_sem]
          have p1 : w1.cell? ⟨w.heap.size, 1, none⟩ = some (.slice A n c) := by rw [hc1 _ _ (by first | omega | (simp; done) | (simp; omega))]; simp [go_sem]
          have p2 : w1.cell? ⟨w.heap.size, 2, none⟩ = some (.slice A' n' c') := by rw [hc1 _ _ (by first | omega | (simp; done) | (simp; omega))]; simp [go_sem]
          have p3 : w1.heap[w.heap.size + 1]? = some (.cells #[.int .i64 0, .slice none 0 0, .slice none 0 0] 25 (0, 0)) := by
            rw [hb1.block _ (by first | omega | (simp; done) | (simp; omega))]
            have e : (w.alloc (.cells #[.int .i64 L.start, .slice A n c, .slice A' n' c'] 25)).heap.size = w.heap.size + 1 := by simp
            rw [← e]
            exact heap_alloc_new _ _
          clear KV hc1 hf1 hb1
          have P3 := Lib.hid p3
          clear p3
          go_wp2_with fail
          refine (amount_any _ _).mono ?_
          rintro e w2 ⟨rfl, rfl⟩
          go_wp2_with fail
          refine (KH _).out.mono ?_
          rintro e w2 ⟨rfl, hb2⟩
          have hB2 : Below w.heap.size w w2 := after hB1 hb2
          have hz2 : w.heap.size + 1 < w2.heap.size := Nat.lt_of_lt_of_le hz1 hb2.size
          obtain ⟨s0, s1, s2⟩ := held3 (b := w.heap.size) hb2 (by omega) ⟨p0, p1, p2⟩
          have P4 := Lib.hid ((hb2.block _ hz1).trans P3.out)
          clear KH hb2 p0 p1 p2 P3
          go_wp2_with fail
          refine (KO _ hB2).out.mono ?_
          rintro e w3 ⟨A1, c1, A2, c2, rfl, hown1, hown2, hb3⟩
          have hB3 : Below w.heap.size w w3 := after hB2 hb3
          have hz3 : w.heap.size + 1 < w3.heap.size := Nat.lt_of_lt_of_le hz2 hb3.size
          obtain ⟨q0, q1, q2⟩ := held3 (b := w.heap.size) hb3 (by omega) ⟨s0, s1, s2⟩
          have P5 := Lib.hid ((hb3.block _ hz2).trans P4.out)
          obtain ⟨g, rfl, hg1, hg2⟩ := own_some hown1 (by omega)
          obtain ⟨x, hx⟩ : ∃ x, (ints L.due)[k]? = some (.int .i64 x) := ⟨L.due[k]'(by rw [hdl.out]; exact hkn), by simp [ints, List.getElem?_eq_getElem (show k < L.due.length by rw [hdl.out]; exact hkn)]⟩
          have t0 : w3.cell? ⟨g, k, none⟩ = some (.int .i64 x) := (hown1.cellAt k (by omega)).trans hx
          have t1 : w3.frozen? ⟨g, k, none⟩ = false := hown1.frozenAt k
          have hz3' : w.heap.size < w3.heap.size := by omega
          have n1 : ¬ w3.heap.size = g := by omega
          have n2 : ¬ g = w3.heap.size := by omega
          have n3 : ¬ w.heap.size + 1 = g := by omega
          have n4 : ¬ g = w.heap.size + 1 := by omega
          have hg4 : w.heap.size + 1 < g := by omega
          have hz23 := hb3.size
          have g1 := P5.out
          have x0 : w3.cell? ⟨w.heap.size + 1, 0, none⟩ = some (.int .i64 0) := cell_of_row w3 (w.heap.size + 1) 0 _ _ _ g1
          have x1 : w3.cell? ⟨w.heap.size + 1, 1, none⟩ = some (.slice none 0 0) := cell_of_row w3 (w.heap.size + 1) 1 _ _ _ g1
          have x2 : w3.cell? ⟨w.heap.size + 1, 2, none⟩ = some (.slice none 0 0) := cell_of_row w3 (w.heap.size + 1) 2 _ _ _ g1
          have y0 := frozen_of_row w3 (w.heap.size + 1) 0 _ _ g1
          have y1 := frozen_of_row w3 (w.heap.size + 1) 1 _ _ g1
          have y2 := frozen_of_row w3 (w.heap.size + 1) 2 _ _ g1
          clear KO s0 s1 s2 P4 hx g1 P5
          go_wp2
          refine bodyPost_ret (v := .tuple #[.agg #[.int .i64 L.start, .slice (some ⟨g, 0, none⟩) n c1, .slice A2 n' c2], .int .i64 0]) (by simp [results, Try.results13, go_sem, x0, x1, x2, hz3]) rfl ?_
          have k1 : ∀ k', (Value.slice (some ⟨g, 0, none⟩) n c1).ownBlock = some k' → k' ≠ w.heap.size + 1 := fun k' hk' => by cases hk'; exact n4
          have k2 : ∀ k', (Value.slice A2 n' c2).ownBlock = some k' → k' ≠ w.heap.size + 1 := fun k' hk' => by have := hown2.lt k' hk'; omega
          have k3 : ∀ k', (Value.slice A2 n' c2).ownBlock = some k' → k' ≠ g := fun k' hk' e => own_ne hown1 hown2 (by decide) (k := g) rfl (e ▸ hk')
          refine ⟨some ⟨g, 0, none⟩, c1, A2, c2, ?_, ⟨?_, ?_⟩, by go_grown⟩
          · simp only [List.length_set, hdl.out, hpl.out]
          · simp only [List.length_set, hdl.out]
            rw [← ints_set]
            exact own_more ((own_set (own_set (own_set (hown1.stored k _).1 (by exact k1) _) (by exact k1) _) (by exact k1) _).alloc _) (by omega)
          · simp only [hpl.out]
            exact own_more ((own_set (own_set (own_set (own_set hown2 (by exact k3) _) (by exact k2) _) (by exact k2) _) (by exact k2) _).alloc _) (by omega)
end Go.Proofs.Ytmaojcjnpblffaa
