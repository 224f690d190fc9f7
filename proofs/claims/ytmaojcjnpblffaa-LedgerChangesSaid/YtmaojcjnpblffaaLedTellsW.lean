/- What LedgerTells and LedgerChanges need besides: Few, and rows that are counted up. -/
import Derived.Test.YtmaojcjnpblffaaLedU
namespace Go.Proofs.Ytmaojcjnpblffaa
open Go.RowKit BigFrame
set_option linter.unusedVariables false

def fewB (n n' : Nat) : Bool := decide ((n ≤ 40 ∨ 1200 < n ∧ n ≤ 1202) ∧ (n' ≤ 60 ∨ 4000 < n' ∧ n' ≤ 4002))
set_option maxRecDepth 100000 in
set_option maxHeartbeats 1000000 in
theorem few_any (s : Int) (A : Option Addr) (n c : Nat) (A' : Option Addr) (n' c' : Nat) (w : World) (n0 : n ≤ 9223372036854775807) (n1 : n' ≤ 9223372036854775807) :
    Calls Try.prog 18 #[.agg #[.int .i64 s, .slice A n c, .slice A' n' c']] w fun e w' => e = .returned (.bool (fewB n n')) ∧ Below w.heap.size w w' := by
  by_cases h1 : n ≤ 40
  · by_cases h2 : n' ≤ 60
    · go_enter Try.func18, Try.ntmps18
      go_wp2
      go_ret
      exact ⟨ret_bool (true_dec (by omega)), by go_grown⟩
    · by_cases h3 : 4000 < n'
      all_goals
        go_enter Try.func18, Try.ntmps18
        go_wp2
        go_ret
        refine ⟨ret_bool ?_, by go_grown⟩
        unfold fewB
        first | exact dec_of (by omega) | exact false_dec (by omega) | exact true_dec (by omega) | (rw [Bool.eq_iff_iff]; simp only [Bool.or_eq_true, Bool.and_eq_true, decide_eq_true_eq]; omega)
  · by_cases h3 : 1200 < n
    · by_cases h4 : n ≤ 1202
      · by_cases h2 : n' ≤ 60
        · go_enter Try.func18, Try.ntmps18
          go_wp2
          go_ret
          refine ⟨ret_bool ?_, by go_grown⟩
          unfold fewB
          first | exact dec_of (by omega) | exact false_dec (by omega) | exact true_dec (by omega) | (rw [Bool.eq_iff_iff]; simp only [Bool.or_eq_true, Bool.and_eq_true, decide_eq_true_eq]; omega)
        · by_cases h5 : 4000 < n'
          all_goals
            go_enter Try.func18, Try.ntmps18
            go_wp2
            go_ret
            refine ⟨ret_bool ?_, by go_grown⟩
            unfold fewB
            first | exact dec_of (by omega) | exact false_dec (by omega) | exact true_dec (by omega) | (rw [Bool.eq_iff_iff]; simp only [Bool.or_eq_true, Bool.and_eq_true, decide_eq_true_eq]; omega)
      · go_enter Try.func18, Try.ntmps18
        go_wp2
        go_ret
        refine ⟨ret_bool ?_, by go_grown⟩
        unfold fewB
        first | exact dec_of (by omega) | exact false_dec (by omega) | exact true_dec (by omega) | (rw [Bool.eq_iff_iff]; simp only [Bool.or_eq_true, Bool.and_eq_true, decide_eq_true_eq]; omega)
    · go_enter Try.func18, Try.ntmps18
      go_wp2
      go_ret
      refine ⟨ret_bool ?_, by go_grown⟩
      unfold fewB
      first | exact dec_of (by omega) | exact false_dec (by omega) | exact true_dec (by omega) | (rw [Bool.eq_iff_iff]; simp only [Bool.or_eq_true, Bool.and_eq_true, decide_eq_true_eq]; omega)

/-- At each element's cell 'off' the row holds an int. -/
def IntAt (xs : List Value) (m st off : Nat) : Prop := ∀ i, i < m → ∃ v, xs[i * st + off]? = some (.int .i64 v)
theorem IntAt.set_ {xs : List Value} {m st off : Nat} (h : IntAt xs m st off) (hs : 0 < st) {j : Nat} (hj : j < m) (u : Int) : IntAt (xs.set (j * st + off) (.int .i64 u)) m st off := by
  intro i hi
  by_cases e : i = j
  · subst e
    refine ⟨u, ?_⟩
    obtain ⟨v, hv⟩ := h i hi
    rw [List.getElem?_set_self (List.getElem?_eq_some_iff.1 hv).1]
  · obtain ⟨v, hv⟩ := h i hi
    refine ⟨v, ?_⟩
    rw [List.getElem?_set_ne, hv]
    intro e'
    have : j * st = i * st := by omega
    exact e (Nat.eq_of_mul_eq_mul_right hs this).symm
theorem IntAt.ints (l : List Int) : IntAt (ints l) l.length 1 0 := by
  intro i hi
  exact ⟨l[i], by simp [Go.Proofs.Ytmaojcjnpblffaa.ints, List.getElem?_eq_getElem hi]⟩
theorem IntAt.paids (l : List Paid) : IntAt (paids l) l.length 4 3 := fun i hi => ⟨_, (paids_get l i hi).2.2.2⟩
theorem Box3.far {w : World} {t : Nat} {v0 v1 v2 : Value} (h : Box3 w t v0 v1 v2) {p : Addr} (hp : t ≠ p.block) (u : Value) : Box3 (w.setCell p u) t v0 v1 v2 := by
  have hb : (w.setCell p u).heap[t]? = w.heap[t]? := Below.heap_setCell w p u t hp
  have hc : ∀ o, (w.setCell p u).cell? ⟨t, o, none⟩ = w.cell? ⟨t, o, none⟩ := fun o => World.cell?_of_block (a := ⟨t, o, none⟩) hb
  have hf : ∀ o, (w.setCell p u).frozen? ⟨t, o, none⟩ = w.frozen? ⟨t, o, none⟩ := fun o => World.frozen?_of_block (a := ⟨t, o, none⟩) hb
  exact ⟨⟨(hc _).trans h.1.1, (hc _).trans h.1.2.1, (hc _).trans h.1.2.2⟩, ⟨(hf _).trans h.2.1, (hf _).trans h.2.2.1, (hf _).trans h.2.2.2⟩⟩

/-- While the rows of a ledger of the call's own are counted up. -/
structure Inc (ws : World) (base t : Nat) (s : Int) (A : Option Addr) (n c : Nat) (A' : Option Addr) (n' c' : Nat) (W : World) : Prop where
  below : Below base ws W
  box : Box3 W t (.int .i64 s) (.slice A n c) (.slice A' n' c')
  due : ∃ xs, W.ownsRow base 3 1 (.slice A n c) n xs ∧ IntAt xs n 1 0
  posts : ∃ xs, W.ownsRow base 47 4 (.slice A' n' c') n' xs ∧ IntAt xs n' 4 3
  k1 : ∀ k, (Value.slice A n c).ownBlock = some k → base ≤ k ∧ k < t
  k2 : ∀ k, (Value.slice A' n' c').ownBlock = some k → base ≤ k ∧ k < t
section
variable {ws W : World} {base t n c n' c' g : Nat} {s : Int} {A A' : Option Addr}
theorem Inc.one (h : Inc ws base t s (some ⟨g, 0, none⟩) n c A' n' c' W) {j : Nat} (hj : j < n) (u : Int) : Inc ws base t s (some ⟨g, 0, none⟩) n c A' n' c' (W.setCell ⟨g, j, none⟩ (.int .i64 u)) := by
  have hk := h.k1 g rfl
  obtain ⟨xs, h1, h2⟩ := h.due
  obtain ⟨ys, h3, h4⟩ := h.posts
  refine ⟨h.below.setCell hk.1 _, h.box.far (by dsimp only; omega) _, ⟨xs.set j (.int .i64 u), (h1.stored j _).1, ?_⟩, ⟨ys, own_set h3 (fun k hk e => ?_) _, h4⟩, h.k1, h.k2⟩
  · have := h2.set_ (by omega) hj u
    rwa [Nat.mul_one, Nat.add_zero] at this
  · exact own_ne h1 h3 (by decide) (k := g) rfl (by rw [hk]; exact congrArg some e)
theorem Inc.two (h : Inc ws base t s A n c (some ⟨g, 0, none⟩) n' c' W) {j : Nat} (hj : j < n') (u : Int) : Inc ws base t s A n c (some ⟨g, 0, none⟩) n' c' (W.setCell ⟨g, j * 4 + 3, none⟩ (.int .i64 u)) := by
  have hk := h.k2 g rfl
  obtain ⟨xs, h1, h2⟩ := h.due
  obtain ⟨ys, h3, h4⟩ := h.posts
  refine ⟨h.below.setCell hk.1 _, h.box.far (by dsimp only; omega) _, ⟨xs, own_set h1 (fun k hk e => ?_) _, h2⟩, ⟨ys.set (j * 4 + 3) (.int .i64 u), (h3.stored (j * 4 + 3) _).1, h4.set_ (by omega) hj u⟩, h.k1, h.k2⟩
  exact own_ne h3 h1 (by decide) (k := g) rfl (by rw [hk]; exact congrArg some e)
theorem Inc.see1 (h : Inc ws base t s A n c A' n' c' W) {j : Nat} (hj : j < n) : ∃ g v, A = some ⟨g, 0, none⟩ ∧ g < W.heap.size ∧ W.cell? ⟨g, j, none⟩ = some (.int .i64 v) ∧ W.frozen? ⟨g, j, none⟩ = false := by
  obtain ⟨xs, h1, h2⟩ := h.due
  obtain ⟨g, rfl, _, hl⟩ := own_some h1 (by omega)
  obtain ⟨v, hv⟩ := h2 j hj
  rw [Nat.mul_one, Nat.add_zero] at hv
  exact ⟨g, v, rfl, hl, (h1.cellAt j (by omega)).trans hv, h1.frozenAt j⟩
theorem Inc.see2 (h : Inc ws base t s A n c A' n' c' W) {j : Nat} (hj : j < n') : ∃ g v, A' = some ⟨g, 0, none⟩ ∧ g < W.heap.size ∧ W.cell? ⟨g, j * 4 + 3, none⟩ = some (.int .i64 v) ∧ W.frozen? ⟨g, j * 4 + 3, none⟩ = false := by
  obtain ⟨xs, h1, h2⟩ := h.posts
  obtain ⟨g, rfl, _, hl⟩ := own_some h1 (by omega)
  obtain ⟨v, hv⟩ := h2 j hj
  exact ⟨g, v, rfl, hl, (h1.cellAt _ (by omega)).trans hv, h1.frozenAt _⟩
end
end Go.Proofs.Ytmaojcjnpblffaa
