/- Rows that are counted up, with all else left alone. -/
import Derived.Test.YtmaojcjnpblffaaLedX
namespace Go.Proofs.Ytmaojcjnpblffaa
open Go.RowKit BigFrame
set_option linter.unusedVariables false

theorem own_far {w w' : World} {base n size : Nat} {e : TypeId} {v : Value} {xs : List Value} (h : w.ownsRow base e size v n xs) (hk : ∀ k, v.ownBlock = some k → w'.heap[k]? = w.heap[k]?) : w'.ownsRow base e size v n xs := by
  refine ⟨h.1, ?_⟩
  rcases h.2 with h2 | ⟨g, cap, cur, hv, hg, hh, r⟩
  · exact .inl h2
  · refine .inr ⟨g, cap, cur, hv, hg, ?_, r⟩
    rw [hk g (by rw [hv]; rfl)]
    exact hh

/-- The rows of a ledger of the call's own, each element with an int to be counted up. -/
structure Rows2 (base : Nat) (A : Option Addr) (n c : Nat) (A' : Option Addr) (n' c' : Nat) (W : World) : Prop where
  due : ∃ xs, W.ownsRow base 3 1 (.slice A n c) n xs ∧ IntAt xs n 1 0
  posts : ∃ xs, W.ownsRow base 47 4 (.slice A' n' c') n' xs ∧ IntAt xs n' 4 3
theorem Rows2.of {w : World} {base c c' : Nat} {A A' : Option Addr} {L : Led} (h : OwnLed w base A c A' c' L) : Rows2 base A L.due.length c A' L.posts.length c' w :=
  ⟨⟨_, h.due, IntAt.ints _⟩, ⟨_, h.posts, IntAt.paids _⟩⟩
theorem Rows2.far {w w' : World} {base n c n' c' : Nat} {A A' : Option Addr} (h : Rows2 base A n c A' n' c' w) (h1 : ∀ k, (Value.slice A n c).ownBlock = some k → w'.heap[k]? = w.heap[k]?) (h2 : ∀ k, (Value.slice A' n' c').ownBlock = some k → w'.heap[k]? = w.heap[k]?) : Rows2 base A n c A' n' c' w' := by
  obtain ⟨⟨xs, a, b⟩, ⟨ys, d, e⟩⟩ := h
  exact ⟨⟨xs, own_far a h1, b⟩, ⟨ys, own_far d h2, e⟩⟩

/-- While such rows are counted up: nothing else that was there changes. -/
structure Cnt (ws : World) (base t : Nat) (s : Int) (A : Option Addr) (n c : Nat) (A' : Option Addr) (n' c' : Nat) (W : World) : Prop where
  os : W.os = ws.os
  tape : W.tape = ws.tape
  output : W.output = ws.output
  size : ws.heap.size ≤ W.heap.size
  far : ∀ k, k < ws.heap.size → (Value.slice A n c).ownBlock ≠ some k → (Value.slice A' n' c').ownBlock ≠ some k → W.heap[k]? = ws.heap[k]?
  box : Box3 W t (.int .i64 s) (.slice A n c) (.slice A' n' c')
  rows : Rows2 base A n c A' n' c' W
  k1 : ∀ k, (Value.slice A n c).ownBlock = some k → base ≤ k ∧ k < t
  k2 : ∀ k, (Value.slice A' n' c').ownBlock = some k → base ≤ k ∧ k < t
section
variable {ws W : World} {base t n c n' c' g : Nat} {s : Int} {A A' : Option Addr}
theorem Cnt.below (h : Cnt ws base t s A n c A' n' c' W) (hb : base ≤ ws.heap.size) : Below base ws W :=
  ⟨h.os, h.tape, h.output, h.size, fun k hk => h.far k (by omega) (fun e => by have := (h.k1 k e).1; omega) (fun e => by have := (h.k2 k e).1; omega)⟩
theorem Cnt.one (h : Cnt ws base t s (some ⟨g, 0, none⟩) n c A' n' c' W) {j : Nat} (hj : j < n) (u : Int) : Cnt ws base t s (some ⟨g, 0, none⟩) n c A' n' c' (W.setCell ⟨g, j, none⟩ (.int .i64 u)) := by
  have hk := h.k1 g rfl
  obtain ⟨⟨xs, h1, h2⟩, ⟨ys, h3, h4⟩⟩ := h.rows
  refine ⟨h.os, h.tape, h.output, by simpa using h.size, fun k hk h5 h6 => (Below.heap_setCell W _ _ k (fun e => h5 (by rw [e]; rfl))).trans (h.far k hk h5 h6), h.box.far (by dsimp only; omega) _, ⟨⟨xs.set j (.int .i64 u), (h1.stored j _).1, ?_⟩, ⟨ys, own_set h3 (fun k hk e => ?_) _, h4⟩⟩, h.k1, h.k2⟩
  · have := h2.set_ (by omega) hj u
    rwa [Nat.mul_one, Nat.add_zero] at this
  · exact own_ne h1 h3 (by decide) (k := g) rfl (by rw [hk]; exact congrArg some e)
theorem Cnt.two (h : Cnt ws base t s A n c (some ⟨g, 0, none⟩) n' c' W) {j : Nat} (hj : j < n') (u : Int) : Cnt ws base t s A n c (some ⟨g, 0, none⟩) n' c' (W.setCell ⟨g, j * 4 + 3, none⟩ (.int .i64 u)) := by
  have hk := h.k2 g rfl
  obtain ⟨⟨xs, h1, h2⟩, ⟨ys, h3, h4⟩⟩ := h.rows
  refine ⟨h.os, h.tape, h.output, by simpa using h.size, fun k hk h5 h6 => (Below.heap_setCell W _ _ k (fun e => h6 (by rw [e]; rfl))).trans (h.far k hk h5 h6), h.box.far (by dsimp only; omega) _, ⟨⟨xs, own_set h1 (fun k hk e => ?_) _, h2⟩, ⟨ys.set (j * 4 + 3) (.int .i64 u), (h3.stored (j * 4 + 3) _).1, h4.set_ (by omega) hj u⟩⟩, h.k1, h.k2⟩
  exact own_ne h3 h1 (by decide) (k := g) rfl (by rw [hk]; exact congrArg some e)
theorem Cnt.see1 (h : Cnt ws base t s A n c A' n' c' W) {j : Nat} (hj : j < n) : ∃ g v, A = some ⟨g, 0, none⟩ ∧ g < W.heap.size ∧ W.cell? ⟨g, j, none⟩ = some (.int .i64 v) ∧ W.frozen? ⟨g, j, none⟩ = false := by
  obtain ⟨xs, h1, h2⟩ := h.rows.due
  obtain ⟨g, rfl, _, hl⟩ := own_some h1 (by omega)
  obtain ⟨v, hv⟩ := h2 j hj
  rw [Nat.mul_one, Nat.add_zero] at hv
  exact ⟨g, v, rfl, hl, (h1.cellAt j (by omega)).trans hv, h1.frozenAt j⟩
theorem Cnt.see2 (h : Cnt ws base t s A n c A' n' c' W) {j : Nat} (hj : j < n') : ∃ g v, A' = some ⟨g, 0, none⟩ ∧ g < W.heap.size ∧ W.cell? ⟨g, j * 4 + 3, none⟩ = some (.int .i64 v) ∧ W.frozen? ⟨g, j * 4 + 3, none⟩ = false := by
  obtain ⟨xs, h1, h2⟩ := h.rows.posts
  obtain ⟨g, rfl, _, hl⟩ := own_some h1 (by omega)
  obtain ⟨v, hv⟩ := h2 j hj
  exact ⟨g, v, rfl, hl, (h1.cellAt _ (by omega)).trans hv, h1.frozenAt _⟩
/-- A new box for the ledger, and its rows: the counting may begin. -/
theorem Cnt.start {w : World} {ty : TypeId} (h : Rows2 base A n c A' n' c' w) (k1 : ∀ k, (Value.slice A n c).ownBlock = some k → base ≤ k ∧ k < w.heap.size) (k2 : ∀ k, (Value.slice A' n' c').ownBlock = some k → base ≤ k ∧ k < w.heap.size) :
    Cnt (w.alloc (.cells #[.int .i64 s, .slice A n c, .slice A' n' c'] ty)) base w.heap.size s A n c A' n' c' (w.alloc (.cells #[.int .i64 s, .slice A n c, .slice A' n' c'] ty)) :=
  ⟨rfl, rfl, rfl, Nat.le_refl _, fun _ _ _ _ => rfl, Box3.new _ _ _ _ _, h.far (fun k hk => Below.heap_alloc _ _ _ (k1 k hk).2) (fun k hk => Below.heap_alloc _ _ _ (k2 k hk).2), k1, k2⟩
end

theorem postR_len (L : Led) (ps : List Paid) : (postR L ps).1.due.length ≤ L.due.length ∧ (postR L ps).1.posts.length ≤ L.posts.length + ps.length := by
  unfold postR
  split
  · simp [Led.zero]
  · split
    · simp [Led.zero]
    · simp
theorem learnR_len (L : Led) (m d : Int) : (learnR L m d).1.due.length ≤ L.due.length + 1 ∧ (learnR L m d).1.posts.length ≤ L.posts.length := by
  unfold learnR
  split
  · simp [Led.zero]
  · split
    · simp [Led.zero]
    · split <;> simp
end Go.Proofs.Ytmaojcjnpblffaa
