/- A ledger that comes in as an argument, opened. -/
import Derived.Test.YtmaojcjnpblffaaLedD
import Derived.Test.YtmaojcjnpblffaaRows
import Derived.ProofKit
import Derived.OpenShut
import Derived.ShutString
import Derived.ChangeOld
import Derived.Lib.SmallJoins
import Derived.Deep.Slices
import Derived.Deep.Fields
namespace Go.Proofs.Ytmaojcjnpblffaa
open Go.ChangeShapes Go.WideShapes Go.ChangeAt Go.RowKit Go.Joins Go.Deep

theorem ownKnob_ : ownKnob Try.prog.godebug = none := by kernel_rfl
theorem laidOut_ : laidOutB Try.prog = true := by kernel_rfl

theorem list_of {α : Type} {P : Nat → α → Prop} : ∀ n, (∀ i, i < n → ∃ x, P i x) → ∃ l : List α, l.length = n ∧ ∀ i x, l[i]? = some x → P i x
  | 0, _ => ⟨[], rfl, fun i x h => by simp at h⟩
  | n + 1, h => by
    obtain ⟨l, hl, hp⟩ := list_of n fun i hi => h i (by omega)
    obtain ⟨x, hx⟩ := h n (by omega)
    refine ⟨l ++ [x], by simp [hl], fun i y hy => ?_⟩
    rcases Nat.lt_or_ge i n with hi | hi
    · exact hp i y (by rwa [List.getElem?_append_left (by omega)] at hy)
    · rw [List.getElem?_append_right (by omega)] at hy
      have hin : i = n := by
        have := (List.getElem?_eq_some_iff.1 hy).1
        simp at this
        omega
      subst hin
      simp [hl] at hy
      subst hy
      exact hx
theorem paids_inv : ∀ (l : List Paid) (j : Nat) (u : Value), (paids l)[j]? = some u → ∃ i x r, l[i]? = some x ∧ r < 4 ∧ j = i * 4 + r ∧ x.cells[r]? = some u
  | [], j, u, h => by simp [paids] at h
  | p :: l, 0, u, h => ⟨0, p, 0, rfl, by omega, rfl, h⟩
  | p :: l, 1, u, h => ⟨0, p, 1, rfl, by omega, rfl, h⟩
  | p :: l, 2, u, h => ⟨0, p, 2, rfl, by omega, rfl, h⟩
  | p :: l, 3, u, h => ⟨0, p, 3, rfl, by omega, rfl, h⟩
  | p :: l, j + 4, u, h => by
    obtain ⟨i, x, r, h1, h2, h3, h4⟩ := paids_inv l j u (by simpa [paids] using h)
    exact ⟨i + 1, x, r, by simpa using h1, h2, by omega, h4⟩
theorem i64_wf {n : Int} (h : (Lit.int .i64 n).wf = true) : -9223372036854775808 ≤ n ∧ n ≤ 9223372036854775807 := by
  simp [Lit.wf, IntKind.min, IntKind.max, IntKind.bits, IntKind.signed] at h
  exact h
theorem u8_wf {n : Int} (h : (Lit.int .u8 n).wf = true) : 0 ≤ n ∧ n ≤ 255 := by
  simp [Lit.wf, IntKind.min, IntKind.max, IntKind.bits, IntKind.signed] at h
  exact h
theorem u32_wf {n : Int} (h : (Lit.int .u32 n).wf = true) : 0 ≤ n ∧ n ≤ 4294967295 := by
  simp [Lit.wf, IntKind.min, IntKind.max, IntKind.bits, IntKind.signed] at h
  exact h

section
variable {H : Type} {enc : TypeId × Value → H} {w : World} {base : Nat} {spare : Nat → Bool} {held : Bool}
theorem open_ints_ {fuel : Nat} {v : Value} {x : DataW H × List MemPlace} (h : DataW.trod enc Try.prog w base spare held fuel 22 [v] = some x) :
    ∃ (A : Option Addr) (n c : Nat) (l : List Int), v = .slice A n c ∧ Ints w w.heap.size A n l ∧ n ≤ c ∧ c ≤ 9223372036854775807 ∧ ∀ d ∈ l, -9223372036854775808 ≤ d ∧ d ≤ 9223372036854775807 := by
  rcases open_slice Try.underlying22 h with ⟨hv, _⟩ | ⟨a, len, cap, m, n, D, Pl, hv, _, hl, hm, hmm, _, hel⟩
  · simp at hv
    subst hv
    exact ⟨none, 0, 0, [], rfl, ⟨rfl, Reads.none_⟩, Nat.le_refl _, by omega, by simp⟩
  · simp at hv
    subst hv
    have hone : Try.prog.cellsOf 3 = 1 := by kernel_rfl
    have hlm : len ≤ m := by rw [hmm]; split <;> omega
    obtain ⟨l, hll, hp⟩ := list_of (P := fun i (x : Int) => w.cell? (a.add i) = some (.int .i64 x) ∧ -9223372036854775808 ≤ x ∧ x ≤ 9223372036854775807) len (fun i hi => by
      obtain ⟨cs', hc, ht⟩ := hel i (by omega)
      rw [hone] at hc
      obtain ⟨_, hcl, hat⟩ := World.cells?_some hc
      obtain ⟨y, hy, _, hwf⟩ := DataW.trod_int Try.underlying3 ht
      subst hy
      refine ⟨y, ?_, i64_wf hwf⟩
      have := hat 0 (by omega)
      simpa [Addr.add_zero'] using this)
    have hcell : ∀ j u, (ints l)[j]? = some u → w.cell? (a.add j) = some u := by
      intro j u hu
      simp only [ints, List.getElem?_map, Option.map_eq_some_iff] at hu
      obtain ⟨y, hy, rfl⟩ := hu
      exact (hp j y hy).1
    refine ⟨some a, len, cap, l, rfl, ⟨hll, ?_⟩, hl, by unfold maxLen at hm; omega, fun d hd => ?_⟩
    · by_cases h0 : len = 0
      · subst h0
        exact ⟨by simp [ints, hll], fun h => absurd h (by omega)⟩
      · refine Reads.of_add (by omega) (by simp [ints, hll]) ?_ hcell
        have := hcell 0 _ (List.getElem?_eq_getElem (show 0 < (ints l).length by simp [ints, hll]; omega))
        have := World.block_lt_of_cell? w _ this
        simpa [Addr.add_zero'] using this
    · obtain ⟨i, hi, rfl⟩ := List.getElem_of_mem hd
      exact (hp i _ (List.getElem?_eq_getElem hi)).2
theorem open_posts_ {fuel : Nat} {v : Value} {x : DataW H × List MemPlace} (h : DataW.trod enc Try.prog w base spare held fuel 23 [v] = some x) :
    ∃ (A : Option Addr) (n c : Nat) (l : List Paid), v = .slice A n c ∧ Posts w w.heap.size A n l ∧ n ≤ c ∧ c ≤ 9223372036854775807 ∧ ∀ p ∈ l, p.wf := by
  rcases open_slice Try.underlying23 h with ⟨hv, _⟩ | ⟨a, len, cap, m, n, D, Pl, hv, _, hl, hm, hmm, _, hel⟩
  · simp at hv
    subst hv
    exact ⟨none, 0, 0, [], rfl, ⟨rfl, Reads.none_⟩, Nat.le_refl _, by omega, by simp⟩
  · simp at hv
    subst hv
    have hone : Try.prog.cellsOf 47 = 4 := by kernel_rfl
    have hc3 : Try.prog.cellsOf 3 = 1 := by kernel_rfl
    have hc5 : Try.prog.cellsOf 5 = 1 := by kernel_rfl
    have hlm : len ≤ m := by rw [hmm]; split <;> omega
    obtain ⟨l, hll, hp⟩ := list_of (P := fun i (x : Paid) => (∀ r u, x.cells[r]? = some u → w.cell? (a.add (i * 4 + r)) = some u) ∧ x.wf) len (fun i hi => by
      obtain ⟨cs', hc, ht⟩ := hel i (by omega)
      rw [hone] at hc
      obtain ⟨_, hcl, hat⟩ := World.cells?_some hc
      obtain ⟨ys, n', _, _, _, hyl, hf⟩ := DataW.trod_struct Try.underlying47 ht
      obtain ⟨c0, c1, c2, c3, rfl⟩ : ∃ c0 c1 c2 c3, cs' = [c0, c1, c2, c3] := by
        match cs', hcl with
        | [c0, c1, c2, c3], _ => exact ⟨c0, c1, c2, c3, rfl⟩
      obtain ⟨y0, y1, y2, y3, rfl⟩ : ∃ y0 y1 y2 y3, ys = [y0, y1, y2, y3] := by
        match ys, hyl with
        | [y0, y1, y2, y3], _ => exact ⟨y0, y1, y2, y3, rfl⟩
      have f0 := hf 0 _ rfl
      have f1 := hf 1 _ rfl
      have f2 := hf 2 _ rfl
      have f3 := hf 3 _ rfl
      simp [hc3, hc5] at f0 f1 f2 f3
      obtain ⟨x0, e0, _, w0⟩ := DataW.trod_int Try.underlying3 f0
      obtain ⟨x1, e1, _, w1⟩ := DataW.trod_int Try.underlying3 f1
      obtain ⟨x2, e2, _, w2⟩ := DataW.trod_int Try.underlying5 f2
      obtain ⟨x3, e3, _, w3⟩ := DataW.trod_int Try.underlying3 f3
      simp at e0 e1 e2 e3
      subst e0 e1 e2 e3
      refine ⟨⟨x0, x1, x2, x3⟩, fun r u hu => ?_, ⟨(i64_wf w0).1, (i64_wf w0).2, (i64_wf w1).1, (i64_wf w1).2, (u8_wf w2).1, (u8_wf w2).2, (i64_wf w3).1, (i64_wf w3).2⟩⟩
      have hr : r < 4 := (List.getElem?_eq_some_iff.1 hu).1
      have h2 := hat r hr
      rw [Addr.add_add] at h2
      rw [h2]
      exact hu)
    have hcell : ∀ j u, (paids l)[j]? = some u → w.cell? (a.add j) = some u := by
      intro j u hu
      obtain ⟨i, x, r, h1, h2, rfl, h4⟩ := paids_inv l j u hu
      exact (hp i x h1).1 r u h4
    refine ⟨some a, len, cap, l, rfl, ⟨hll, ?_⟩, hl, by unfold maxLen at hm; omega, fun d hd => ?_⟩
    · by_cases h0 : len = 0
      · subst h0
        exact ⟨by rw [paids_length, hll], fun h => absurd h (by omega)⟩
      · refine Reads.of_add (by omega) (by rw [paids_length, hll]) ?_ hcell
        have := hcell 0 _ (List.getElem?_eq_getElem (show 0 < (paids l).length by rw [paids_length, hll]; omega))
        have := World.block_lt_of_cell? w _ this
        simpa [Addr.add_zero'] using this
    · obtain ⟨i, hi, rfl⟩ := List.getElem_of_mem hd
      exact (hp i _ (List.getElem?_eq_getElem hi)).2

theorem open_led2 {r : Reach} {b0 : Nat} {v : Value} {d : DataW H} {p : List MemPlace} (hv : Value.okWide Try.prog w r b0 25 v) (h : DataW.Trod enc Try.prog w base spare held 25 v d p) :
    ∃ (A : Option Addr) (n c : Nat) (A' : Option Addr) (n' c' : Nat) (L : Led), v = .agg #[.int .i64 L.start, .slice A n c, .slice A' n' c'] ∧ LedIn w w.heap.size A n A' n' L ∧ n ≤ c ∧ n' ≤ c' ∧ c ≤ 9223372036854775807 ∧ c' ≤ 9223372036854775807 := by
  obtain ⟨v0, v1, v2, y0, y1, y2, m, rfl, _, _, h0, h1, h2⟩ := open_agg3 Try.underlying25 (by kernel_rfl) (by kernel_rfl) hv h
  obtain ⟨s, e0, _, ws⟩ := DataW.trod_int Try.underlying3 h0
  simp at e0
  subst e0
  obtain ⟨A, n, c, due, rfl, hd, n0, n1, wd⟩ := open_ints_ h1
  obtain ⟨A', n', c', posts, rfl, hp, m0, m1, wp⟩ := open_posts_ h2
  have := i64_wf ws
  exact ⟨A, n, c, A', n', c', ⟨s, due, posts⟩, rfl, ⟨hd, hp, wp, wd, this.1, this.2, by omega, by omega⟩, n0, m0, n1, m1⟩
theorem open_led {r : Reach} {b0 : Nat} {v : Value} {d : DataW H} {p : List MemPlace} (hv : Value.okWide Try.prog w r b0 25 v) (h : DataW.Trod enc Try.prog w base spare held 25 v d p) :
    ∃ (A : Option Addr) (n c : Nat) (A' : Option Addr) (n' c' : Nat) (L : Led), v = .agg #[.int .i64 L.start, .slice A n c, .slice A' n' c'] ∧ LedIn w w.heap.size A n A' n' L := by
  obtain ⟨A, n, c, A', n', c', L, h1, h2, _⟩ := open_led2 hv h
  exact ⟨A, n, c, A', n', c', L, h1, h2⟩
end
end Go.Proofs.Ytmaojcjnpblffaa
