/- A ledger's memory that lies apart from one block which is written. -/
import Derived.Test.YtmaojcjnpblffaaLedPostsW
namespace Go.Proofs.Ytmaojcjnpblffaa
open Go.RowKit BigFrame
set_option linter.unusedVariables false

/-- W is as w was, but for block t. -/
def But (w : World) (t : Nat) (W : World) : Prop := (∀ p : Addr, p.block < w.heap.size → p.block ≠ t → W.cell? p = w.cell? p) ∧ w.heap.size ≤ W.heap.size
theorem But.refl (w : World) (t : Nat) : But w t w := ⟨fun _ _ _ => rfl, Nat.le_refl _⟩
theorem But.trans {w W W' : World} {t : Nat} (h : But w t W) (h' : But W t W') : But w t W' :=
  ⟨fun p hp hne => (h'.1 p (Nat.lt_of_lt_of_le hp h.2) hne).trans (h.1 p hp hne), Nat.le_trans h.2 h'.2⟩
theorem But.of {w W : World} (t : Nat) (h : Below w.heap.size w W) : But w t W := ⟨fun p hp _ => h.cell hp, h.size⟩
theorem But.set (w : World) (t j : Nat) (u : Value) : But w t (w.setCell ⟨t, j, none⟩ u) :=
  ⟨fun p _ hne => World.cell?_setCell_other w ⟨t, j, none⟩ p u (fun e => hne (by rw [← e])), by simp⟩
/-- The ledger reads in every world that is as w was but for block t. -/
def Firm (w : World) (t : Nat) (A : Option Addr) (n : Nat) (A' : Option Addr) (n' : Nat) (L : Led) : Prop := ∀ W, But w t W → LedIn W W.heap.size A n A' n' L
theorem Firm.led {w W : World} {t n n' : Nat} {A A' : Option Addr} {L : Led} (h : Firm w t A n A' n' L) (hW : But w t W) : LedIn W W.heap.size A n A' n' L := h W hW
theorem Firm.to {w W : World} {t n n' : Nat} {A A' : Option Addr} {L : Led} (h : Firm w t A n A' n' L) (hW : But w t W) : Firm W t A n A' n' L := fun W' h' => h W' (hW.trans h')
theorem Reads.firm {w W : World} {t size n c : Nat} {A : Option Addr} {xs : List Value} (h : Reads w w.heap.size size A n xs) (hne : ∀ k, (Value.slice A n c).ownBlock = some k → k ≠ t) (hW : But w t W) : Reads W W.heap.size size A n xs :=
  ⟨h.1, fun hn => by
    obtain ⟨b, o, rfl, hb, hc⟩ := h.2 hn
    exact ⟨b, o, rfl, Nat.lt_of_lt_of_le hb hW.2, fun j u hu => (hW.1 ⟨b, o + j, none⟩ hb (hne b rfl)).trans (hc j u hu)⟩⟩
theorem OwnLed.firm {w : World} {base c c' t : Nat} {A A' : Option Addr} {L : Led} (h : OwnLed w base A c A' c' L) (ht : t < base) (wfp : ∀ p ∈ L.posts, p.wf) (wfd : ∀ d ∈ L.due, -9223372036854775808 ≤ d ∧ d ≤ 9223372036854775807) (s0 : -9223372036854775808 ≤ L.start) (s1 : L.start ≤ 9223372036854775807) :
    Firm w t A L.due.length A' L.posts.length L := by
  intro W hW
  have hl := h.led wfp wfd s0 s1
  have k1 : ∀ k, (Value.slice A L.due.length c).ownBlock = some k → base ≤ k ∧ k < w.heap.size := h.due.lt
  have k2 : ∀ k, (Value.slice A' L.posts.length c').ownBlock = some k → base ≤ k ∧ k < w.heap.size := h.posts.lt
  exact ⟨⟨hl.due.len, hl.due.reads.firm (c := c) (fun k hk => by have := k1 k hk; omega) hW⟩, ⟨hl.posts.len, hl.posts.reads.firm (c := c') (fun k hk => by have := k2 k hk; omega) hW⟩, wfp, wfd, s0, s1, hl.n0, hl.n1⟩
theorem LedIn.firm {w0 w : World} {t n n' : Nat} {A A' : Option Addr} {L : Led} (h : LedIn w0 w0.heap.size A n A' n' L) (hb : Below w0.heap.size w0 w) (ht : w0.heap.size ≤ t) : Firm w t A n A' n' L := by
  intro W hW
  have hk : ∀ p : Addr, p.block < w0.heap.size → W.cell? p = w0.cell? p := fun p hp => (hW.1 p (Nat.lt_of_lt_of_le hp hb.size) (by omega)).trans (hb.cell hp)
  have hs : w0.heap.size ≤ W.heap.size := Nat.le_trans hb.size hW.2
  exact ⟨⟨h.due.len, (h.due.reads.keep hk).more hs⟩, ⟨h.posts.len, (h.posts.reads.keep hk).more hs⟩, h.wfp, h.wfd, h.s0, h.s1, h.n0, h.n1⟩
/-- Three cells of block t that can be written. -/
def Box3 (w : World) (t : Nat) (v0 v1 v2 : Value) : Prop :=
  (w.cell? ⟨t, 0, none⟩ = some v0 ∧ w.cell? ⟨t, 1, none⟩ = some v1 ∧ w.cell? ⟨t, 2, none⟩ = some v2) ∧ (w.frozen? ⟨t, 0, none⟩ = false ∧ w.frozen? ⟨t, 1, none⟩ = false ∧ w.frozen? ⟨t, 2, none⟩ = false)
theorem Box3.new (w : World) (v0 v1 v2 : Value) (ty : TypeId) : Box3 (w.alloc (.cells #[v0, v1, v2] ty)) w.heap.size v0 v1 v2 := by
  have h : (w.alloc (.cells #[v0, v1, v2] ty)).heap[w.heap.size]? = some (.cells #[v0, v1, v2] ty (0, 0)) := heap_at rfl
  exact ⟨⟨cell_of_row _ _ 0 _ _ _ h, cell_of_row _ _ 1 _ _ _ h, cell_of_row _ _ 2 _ _ _ h⟩, ⟨frozen_of_row _ _ 0 _ _ h, frozen_of_row _ _ 1 _ _ h, frozen_of_row _ _ 2 _ _ h⟩⟩
theorem Box3.kept {w W : World} {t B : Nat} {v0 v1 v2 : Value} (h : Box3 w t v0 v1 v2) (hb : Below B w W) (ht : t < B) : Box3 W t v0 v1 v2 := by
  obtain ⟨hc, hf⟩ := bcell hb
  exact ⟨⟨(hc _ _ ht).trans h.1.1, (hc _ _ ht).trans h.1.2.1, (hc _ _ ht).trans h.1.2.2⟩, ⟨(hf _ _ ht).trans h.2.1, (hf _ _ ht).trans h.2.2.1, (hf _ _ ht).trans h.2.2.2⟩⟩
theorem Box3.store {w : World} {t : Nat} {v0 v1 v2 : Value} (h : Box3 w t v0 v1 v2) (u0 u1 u2 : Value) : Box3 (((w.setCell ⟨t, 0, none⟩ u0).setCell ⟨t, 1, none⟩ u1).setCell ⟨t, 2, none⟩ u2) t u0 u1 u2 := by
  obtain ⟨⟨c0, c1, c2⟩, f0, f1, f2⟩ := h
  refine ⟨⟨?_, ?_, ?_⟩, ?_, ?_, ?_⟩ <;> simp [go_sem, c0, c1, c2, f0, f1, f2]
end Go.Proofs.Ytmaojcjnpblffaa
