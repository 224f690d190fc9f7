/- The walk of LedgerWrong. -/
import Derived.Test.YtmaojcjnpblffaaLedWrongW
import Derived.Deep.DeepCutAuto
import Derived.Deep.CutBlock
import Derived.Deep.CutRange
namespace Go.Proofs.Ytmaojcjnpblffaa
open Go.RowKit BigFrame
set_option linter.unusedVariables false

theorem Reads.of_nil {w : World} {B size : Nat} {A : Option Addr} : Reads w B size A 0 [] := ⟨by simp, fun h => absurd h (by omega)⟩
theorem gives_none {w : World} {n : Int} {e : Ending} {w' : World} (h : GivesLed w (Led.zero, n) e w') : ∃ A c A' c', e = .returned (.tuple #[.agg #[.int .i64 0, .slice A 0 c, .slice A' 0 c'], .int .i64 n]) ∧ Below w.heap.size w w' := by
  obtain ⟨A, c, A', c', he, _, hb⟩ := h
  exact ⟨A, c, A', c', he, hb⟩
theorem paid_in {w : World} {p : Paid} {b B : Nat} {ty : TypeId} {fr : Nat × Nat} (hb : b < B) (hh : w.heap[b]? = some (.cells #[.int .i64 p.day, .int .i64 p.month, .int .u8 p.kind, .int .i64 p.amount] ty fr)) : Posts w B (some ⟨b, 0, none⟩) 1 [p] :=
  ⟨rfl, reads_block hb hh rfl rfl⟩
theorem held4 {w W : World} {b : Nat} {v0 v1 v2 v3 : Value} {t : TypeId} (hb : Below w.heap.size w W) (hl : b < w.heap.size) (h : w.heap[b]? = some (.cells #[v0, v1, v2, v3] t (0, 0))) :
    W.cell? ⟨b, 0, none⟩ = some v0 ∧ W.cell? ⟨b, 1, none⟩ = some v1 ∧ W.cell? ⟨b, 2, none⟩ = some v2 ∧ W.cell? ⟨b, 3, none⟩ = some v3 := by
  have h' := (hb.block b hl).trans h
  exact ⟨cell_of_row _ _ 0 _ _ _ h', cell_of_row _ _ 1 _ _ _ h', cell_of_row _ _ 2 _ _ _ h', cell_of_row _ _ 3 _ _ _ h'⟩

/-- What the walk has made of the defect: n is the copied ledger with the posting p, m is nothing; t12, t14: their blocks. -/
def WrongTail (w1 : World) (L : Led) (n n' t12 t14 : Nat) (e : Value) (wx : World) : Prop := ∃ p A1 c1 A2 c2 A3 c3 A4 c4, e = .int .i64 2 ∧ Below w1.heap.size w1 wx ∧ okP L [p] = false ∧ LedIn wx wx.heap.size A1 n A2 (n' + 1) (L.plus [p]) ∧
  t12 < wx.heap.size ∧ t14 < wx.heap.size ∧ (wx.cell? ⟨t12, 0, none⟩ = some (.int .i64 0) ∧ wx.cell? ⟨t12, 1, none⟩ = some (.slice A3 0 c3) ∧ wx.cell? ⟨t12, 2, none⟩ = some (.slice A4 0 c4)) ∧
  (wx.cell? ⟨t14, 0, none⟩ = some (.int .i64 L.start) ∧ wx.cell? ⟨t14, 1, none⟩ = some (.slice A1 n c1) ∧ wx.cell? ⟨t14, 2, none⟩ = some (.slice A2 (n' + 1) c2))
theorem wrong_append {w5 w6 : World} {base n n' c5 c5' c6 : Nat} {A5 A5' A6 : Option Addr} {L : Led} {y : Paid} {o o' : Obj} (hn : L.due.length = n) (hn' : L.posts.length = n') (hd : w5.ownsRow base 3 1 (.slice A5 n c5) n (ints L.due)) (hp : w5.ownsRow base 47 4 (.slice A5' n' c5') n' (paids L.posts))
    (h6 : w6.ownsRow base 47 4 (.slice A6 (n' + 1) c6) (n' + 1) (paids L.posts ++ paids [y])) (hg : ((w5.alloc o).alloc o').grownBy w6 (Value.slice A5' n' c5').ownBlock) (hat : (Value.slice A6 (n' + 1) c6).ownBlock = (Value.slice A5' n' c5').ownBlock ∨ (Value.slice A6 (n' + 1) c6).ownBlock = some ((w5.alloc o).alloc o').heap.size)
    (hb : base ≤ w5.heap.size) (u : Value) : OwnLed (w6.setCell ⟨w5.heap.size, 2, none⟩ u) base A5 c5 A6 c6 (L.plus [y]) ∧ Below base w5 (w6.setCell ⟨w5.heap.size, 2, none⟩ u) := by
  have k5 : ∀ k, (Value.slice A5 n c5).ownBlock = some k → base ≤ k ∧ k < w5.heap.size := hd.lt
  have k5' : ∀ k, (Value.slice A5' n' c5').ownBlock = some k → base ≤ k ∧ k < w5.heap.size := hp.lt
  have k6 : ∀ k, (Value.slice A6 (n' + 1) c6).ownBlock = some k → k ≠ w5.heap.size := by
    intro k hk
    rcases hat with e | e
    · rw [e] at hk; have := k5' k hk; omega
    · rw [e] at hk; simp at hk; omega
  have hd6 := own_grown ((hd.alloc o).alloc o') hg fun k hk => own_ne hd hp (by decide) hk
  refine ⟨⟨?_, ?_⟩, ?_⟩
  · show World.ownsRow _ base 3 1 (.slice A5 L.due.length c5) L.due.length (ints L.due)
    rw [hn]
    exact own_set hd6 (fun k hk => by have := k5 k hk; dsimp only; omega) u
  · show World.ownsRow _ base 47 4 (.slice A6 (L.posts ++ [y]).length c6) (L.posts ++ [y]).length (paids (L.posts ++ [y]))
    rw [List.length_append, hn', paids_append]
    exact own_set h6 (fun k hk => k6 k hk) u
  · exact (((((Below.refl _ w5).alloc hb o).alloc (by simp; omega) o').grown hg (by simp; omega) fun k hk => (k5' k hk).1)).setCell (by dsimp only; omega) u
theorem plus_led {w w0 : World} {base B n n' c c' : Nat} {A A' A0 A0' : Option Addr} {L : Led} {y : Paid} (h : OwnLed w base A c A' c' (L.plus [y])) (hL : LedIn w0 B A0 n A0' n' L) (hy : y.wf) : LedIn w w.heap.size A n A' (n' + 1) (L.plus [y]) := by
  have := h.led (fun p hp => by
    rcases List.mem_append.1 (show p ∈ L.posts ++ [y] from hp) with h0 | h0
    · exact hL.wfp p h0
    · rw [List.mem_singleton.1 h0]; exact hy) hL.wfd hL.s0 hL.s1
  have e1 : (L.plus [y]).due.length = n := hL.due.len
  have e2 : (L.plus [y]).posts.length = n' + 1 := by show (L.posts ++ [y]).length = n' + 1; rw [List.length_append, hL.posts.len]; rfl
  rw [e1, e2] at this
  exact this
theorem wrong_row {w5 w6 : World} {base n' c5' : Nat} {A5' : Option Addr} {l : List Paid} {cs : Array Value} {t : TypeId} {o' : Obj} (hp : w5.ownsRow base 47 4 (.slice A5' n' c5') n' (paids l)) (hg : ((w5.alloc (.cells cs t)).alloc o').grownBy w6 (Value.slice A5' n' c5').ownBlock) :
    w6.heap[w5.heap.size]? = some (.cells cs t (0, 0)) :=
  (hg.block w5.heap.size (by simp; omega) (fun e => by have := (hp.lt _ e.symm).2; omega)).trans ((Below.heap_alloc _ _ _ (by simp)).trans (heap_at rfl))

/-- The world of the one way that turns the defect once more: what lies in the blocks of bad, m and n. -/
structure InA (w1 : World) (L : Led) (base t9 t12 t14 : Nat) (A5 : Option Addr) (n c5 : Nat) (A6 : Option Addr) (n' c6 : Nat) (q z : Paid) (m1 m2 : Value) (W : World) : Prop where
  below : Below w1.heap.size w1 W
  bad : W.heap[t9]? = some (.cells #[.int .i64 q.day, .int .i64 q.month, .int .u8 q.kind, .int .i64 q.amount] 47 (0, 0))
  m : W.heap[t12]? = some (.cells #[.int .i64 0, m1, m2] 25 (0, 0))
  n : W.heap[t14]? = some (.cells #[.int .i64 L.start, .slice A5 n c5, .slice A6 (n' + 1) c6] 25 (0, 0))
  own : OwnLed W base A5 c5 A6 c6 (L.plus [z])
theorem set_row {w : World} {b k : Nat} {cs : Array Value} {t : TypeId} {fr : Nat × Nat} (h : w.heap[b]? = some (.cells cs t fr)) (u : Value) : (w.setCell ⟨b, k, none⟩ u).heap[b]? = some (.cells (cs.setIfInBounds k u) t fr) := by
  simp [World.setCell, Array.getElem?_modify, h]
theorem far_row {w : World} {b : Nat} {x : Option Obj} (h : w.heap[b]? = x) {p : Addr} (hp : b ≠ p.block) (u : Value) : (w.setCell p u).heap[b]? = x := (Below.heap_setCell w p u b hp).trans h
theorem row_lt {w : World} {b : Nat} {o : Obj} (h : w.heap[b]? = some o) : b < w.heap.size := (Array.getElem?_eq_some_iff.1 h).1
section
variable {w1 W W' : World} {L : Led} {base t9 t12 t14 n c5 n' c6 : Nat} {A5 A6 : Option Addr} {q z : Paid} {m1 m2 : Value}
theorem InA.kept (h : InA w1 L base t9 t12 t14 A5 n c5 A6 n' c6 q z m1 m2 W) (hb : Below W.heap.size W W') : InA w1 L base t9 t12 t14 A5 n c5 A6 n' c6 q z m1 m2 W' :=
  ⟨after h.below hb, (hb.block _ (row_lt h.bad)).trans h.bad, (hb.block _ (row_lt h.m)).trans h.m, (hb.block _ (row_lt h.n)).trans h.n, h.own.kept hb (Nat.le_refl _)⟩
theorem InA.day (h : InA w1 L base t9 t12 t14 A5 n c5 A6 n' c6 q z m1 m2 W) (h0 : w1.heap.size ≤ t9) (h1 : t9 < t12) (h2 : t12 < base) (h3 : base ≤ t14) (d : Int) :
    InA w1 L base t9 t12 t14 A5 n c5 A6 n' c6 ⟨d, q.month, q.kind, q.amount⟩ z m1 m2 (W.setCell ⟨t9, 0, none⟩ (.int .i64 d)) :=
  ⟨h.below.setCell (by dsimp only; omega) _, set_row h.bad _, far_row h.m (by dsimp only; omega) _, far_row h.n (by dsimp only; omega) _, h.own.set (by dsimp only; omega) _⟩
theorem InA.store (h : InA w1 L base t9 t12 t14 A5 n c5 A6 n' c6 q z m1 m2 W) (h0 : w1.heap.size ≤ t9) (h1 : t9 < t12) (h2 : t12 < base) (h3 : base ≤ t14) (u1 u2 : Value) :
    InA w1 L base t9 t12 t14 A5 n c5 A6 n' c6 q z u1 u2 (((W.setCell ⟨t12, 0, none⟩ (.int .i64 0)).setCell ⟨t12, 1, none⟩ u1).setCell ⟨t12, 2, none⟩ u2) :=
  ⟨((h.below.setCell (by dsimp only; omega) _).setCell (by dsimp only; omega) _).setCell (by dsimp only; omega) _, far_row (far_row (far_row h.bad (by dsimp only; omega) _) (by dsimp only; omega) _) (by dsimp only; omega) _, set_row (set_row (set_row h.m _) _) _,
    far_row (far_row (far_row h.n (by dsimp only; omega) _) (by dsimp only; omega) _) (by dsimp only; omega) _, ((h.own.set (by dsimp only; omega) _).set (by dsimp only; omega) _).set (by dsimp only; omega) _⟩
theorem InA.spot (h : InA w1 L base t9 t12 t14 A5 n c5 A6 n' c6 q z m1 m2 W) (hn' : L.posts.length = n') : ∃ g, A6 = some ⟨g, 0, none⟩ ∧ base ≤ g ∧ g ≠ t14 ∧ W.ownsRow base 47 4 (.slice (some ⟨g, 0, none⟩) (n' + 1) c6) (n' + 1) (paids (L.posts ++ [z])) := by
  have ho : W.ownsRow base 47 4 (.slice A6 (n' + 1) c6) (n' + 1) (paids (L.posts ++ [z])) := by
    have := h.own.posts
    rw [show (L.plus [z]).posts.length = n' + 1 by show (L.posts ++ [z]).length = n' + 1; rw [List.length_append, hn']; rfl] at this
    exact this
  rcases ho.2 with ⟨_, h0⟩ | ⟨g, cap, cur, hv, hb, hh, _⟩
  · omega
  · injection hv with ha _ _
    subst ha
    refine ⟨g, rfl, hb, fun e => ?_, ho⟩
    subst e
    rw [h.n] at hh
    injection hh with hh
    injection hh with _ ht
    exact absurd ht (by decide)
theorem InA.put {g : Nat} (h : InA w1 L base t9 t12 t14 A5 n c5 (some ⟨g, 0, none⟩) n' c6 q z m1 m2 W) (hn : L.posts = []) (h0 : w1.heap.size ≤ t9) (h1 : t9 < t12) (h2 : t12 < base) (hg : base ≤ g) (hne : g ≠ t14) (p : Paid) :
    InA w1 L base t9 t12 t14 A5 n c5 (some ⟨g, 0, none⟩) n' c6 q p m1 m2 ((((W.setCell ⟨g, 0, none⟩ (.int .i64 p.day)).setCell ⟨g, 1, none⟩ (.int .i64 p.month)).setCell ⟨g, 2, none⟩ (.int .u8 p.kind)).setCell ⟨g, 3, none⟩ (.int .i64 p.amount)) := by
  have ho := h.own
  have e1 : ∀ z : Paid, (L.plus [z]).posts = [z] := fun z => by show L.posts ++ [z] = [z]; rw [hn]; rfl
  have hp : W.ownsRow base 47 4 (.slice (some ⟨g, 0, none⟩) 1 c6) 1 (paids [z]) := by have := ho.posts; rw [e1] at this; exact this
  have hput := own_put hp 0 p
  simp only [Nat.zero_mul, Nat.zero_add] at hput
  have hd := own_grown ho.due hput.2 fun k hk e => own_ne ho.due hp (by decide) hk (by injection e with e; subst e; rfl)
  refine ⟨(((h.below.setCell (by dsimp only; have := h0; omega) _).setCell (by dsimp only; omega) _).setCell (by dsimp only; omega) _).setCell (by dsimp only; omega) _, far_row (far_row (far_row (far_row h.bad (by dsimp only; omega) _) (by dsimp only; omega) _) (by dsimp only; omega) _) (by dsimp only; omega) _,
    far_row (far_row (far_row (far_row h.m (by dsimp only; omega) _) (by dsimp only; omega) _) (by dsimp only; omega) _) (by dsimp only; omega) _, far_row (far_row (far_row (far_row h.n (by dsimp only; omega) _) (by dsimp only; omega) _) (by dsimp only; omega) _) (by dsimp only; omega) _, ⟨hd, ?_⟩⟩
  show World.ownsRow _ base 47 4 (.slice (some ⟨g, 0, none⟩) (L.plus [p]).posts.length c6) (L.plus [p]).posts.length (paids (L.plus [p]).posts)
  rw [e1]
  exact hput.1
end
theorem InA.tail {w1 W w0 : World} {L : Led} {base t9 t12 t14 n c5 n' c6 B c c' : Nat} {A5 A6 A0 A0' A1 A2 : Option Addr} {q z : Paid} (h : InA w1 L base t9 t12 t14 A5 n c5 A6 n' c6 q z (.slice A1 0 c) (.slice A2 0 c') W) (hL : LedIn w0 B A0 n A0' n' L) (hz : z.wf) (hok : okP L [z] = false) :
    WrongTail w1 L n n' t12 t14 (.int .i64 2) W :=
  ⟨z, A5, c5, A6, c6, A1, c, A2, c', rfl, h.below, hok, plus_led h.own hL hz, row_lt h.m, row_lt h.n,
    ⟨cell_of_row _ _ 0 _ _ _ h.m, cell_of_row _ _ 1 _ _ _ h.m, cell_of_row _ _ 2 _ _ _ h.m⟩, ⟨cell_of_row _ _ 0 _ _ _ h.n, cell_of_row _ _ 1 _ _ _ h.n, cell_of_row _ _ 2 _ _ _ h.n⟩⟩

set_option maxRecDepth 100000 in
set_option maxHeartbeats 8000000 in
theorem wrong_main (A : Option Addr) (n c : Nat) (A' : Option Addr) (n' c' : Nat) (L : Led) (a x : Int) (w : World) (h : LedIn w w.heap.size A n A' n' L) (hu : usableB L = true) (hn0 : 0 < n) (a0 : 0 ≤ a) (a1 : a ≤ 255) (x0 : -9223372036854775808 ≤ x) (x1 : x ≤ 9223372036854775807) :
    Calls Try.prog 10 #[.agg #[.int .i64 L.start, .slice A n c, .slice A' n' c'], .int .u8 a, .int .i64 x] w fun e w' => e = .returned (.bool true) ∧ Below w.heap.size w w' := by
  have KU := fun W hW => Lib.hid (usable_any A n c A' n' c' L W (h.to (w' := W) hW))
  have KW := fun W => Lib.hid (awake_any W)
  obtain ⟨u1, u2, hv⟩ := usable_here hu
  obtain ⟨⟨s0, s1, _⟩, _⟩ := valid_here hv
  have hlen := h.due.len
  have hlen' := h.posts.len
  have hni : ((n : Int) == 0) = false := by rw [beq_eq_false_iff_ne]; omega
  obtain ⟨r, hr⟩ : ∃ r : Nat, (r : Int) = a % 9 := ⟨(a % 9).toNat, by omega⟩
  have hr9 : r < 9 := by omega
  have hrem : Int.tmod a 9 = r := by rw [Int.tmod_eq_emod_of_nonneg a0, hr]
  obtain ⟨dd, hdd⟩ : ∃ dd, lastDay L = dd := ⟨_, rfl⟩
  have hdb := lastDay_bd hv
  rw [hdd] at hdb
  have n40 : n ≤ 40 := by omega
  have n60 : n' ≤ 60 := by omega
  have s1' : L.start ≤ 2400 := by omega
  have RL : n' = 0 ∧ dd = 0 ∨ ∃ q, n' = q + 1 ∧ ∀ W, Below w.heap.size w W → Hid (∃ b o, A' = some ⟨b, o, none⟩ ∧ W.cell? ⟨b, o + q * 4, none⟩ = some (.int .i64 dd)) := by
    by_cases h0 : n' = 0
    · left
      refine ⟨h0, ?_⟩
      have hp : L.posts = [] := List.eq_nil_of_length_eq_zero (by omega)
      rw [← hdd]; unfold lastDay; rw [hp]; rfl
    · right
      refine ⟨n' - 1, by omega, fun W hW => ?_⟩
      obtain ⟨y, b, o, hy, e, _, c0, _⟩ := (h.to hW).posts.at_ (i := n' - 1) (by omega)
      refine ⟨b, o, e, ?_⟩
      have : dd = y.day := by
        rw [← hdd]
        unfold lastDay
        rw [List.getLast?_eq_getElem?, hlen', hy]
      rw [this]; exact c0
  have KPg : ∀ W b, Below w.heap.size w W → Posts W W.heap.size (some ⟨b, 0, none⟩) 1 [goodOf L] → Hid (Calls Try.prog 29 #[.agg #[.int .i64 L.start, .slice A n c, .slice A' n' c'], .slice (some ⟨b, 0, none⟩) 1 1] W (GivesLed W (L.plus [goodOf L], 0))) := by
    intro W b hW hP
    have := post_any A n c A' n' c' (some ⟨b, 0, none⟩) 1 1 L [goodOf L] W (h.to hW) hP (by omega) (by simpa using good_wf hv)
    rw [postR_ok hv (by simp; omega), good_ok hv (by omega), if_pos rfl] at this
    exact this
  have KPb : ∀ W b p, okP L [p] = false → p.wf → Below w.heap.size w W → Posts W W.heap.size (some ⟨b, 0, none⟩) 1 [p] → Hid (Calls Try.prog 29 #[.agg #[.int .i64 L.start, .slice A n c, .slice A' n' c'], .slice (some ⟨b, 0, none⟩) 1 1] W fun e w' => ∃ A1 c1 A2 c2, e = .returned (.tuple #[.agg #[.int .i64 0, .slice A1 0 c1, .slice A2 0 c2], .int .i64 2]) ∧ Below W.heap.size W w') := by
    intro W b p hp hwf hW hP
    have := post_any A n c A' n' c' (some ⟨b, 0, none⟩) 1 1 L [p] W (h.to hW) hP (by omega) (by simpa using hwf)
    rw [postR_ok hv (by simp; omega), hp, if_neg (by simp)] at this
    exact this.mono fun _ _ h => gives_none h
  have KC : ∀ W, Below w.heap.size w W → Hid (Calls Try.prog 19 #[.agg #[.int .i64 L.start, .slice A n c, .slice A' n' c']] W fun e w' => ∃ A1 c1 A2 c2, e = .returned (.agg #[.int .i64 L.start, .slice A1 n c1, .slice A2 n' c2]) ∧ OwnLed w' W.heap.size A1 c1 A2 c2 L ∧ Below W.heap.size W w') := fun W hW =>
    copied_any A n c A' n' c' L W (h.to hW) (by omega) (by omega)
  have KL : ∀ W m d, learnR L m d = (Led.zero, 2) → -9223372036854775808 ≤ m ∧ m ≤ 9223372036854775807 → Below w.heap.size w W → Hid (Calls Try.prog 13 #[.agg #[.int .i64 L.start, .slice A n c, .slice A' n' c'], .int .i64 m, .int .i64 d] W fun e w' => ∃ A1 c1 A2 c2, e = .returned (.tuple #[.agg #[.int .i64 0, .slice A1 0 c1, .slice A2 0 c2], .int .i64 2]) ∧ Below W.heap.size W w') := by
    intro W m d hz hm hW
    have := learn_any A n c A' n' c' L m d W (h.to hW) hm
    rw [hz] at this
    exact this.mono fun _ _ h => gives_none h
  have hgood : goodOf L = ⟨dd, L.start, 1, 1⟩ := by unfold goodOf; rw [hdd]
  have HG := Lib.hid hgood
  clear hgood
  have HRL := Lib.hid RL
  have HI := Lib.hid h
  have HDD := Lib.hid hdd
  have HLEN := Lib.hid hlen
  have HLEN' := Lib.hid hlen'
  clear RL h hdd hr hlen hlen' u1 u2
  go_enter Try.func10, Try.ntmps10
  go_wp2_with fail
  refine (KU _ (by go_grown)).out.mono ?_
  rintro e w1 ⟨rfl, hb1⟩
  have hB1 : Below w.heap.size w w1 := after (by go_grown) hb1
  have hz1 : w.heap.size < w1.heap.size := Nat.lt_of_lt_of_le (by first | omega | (simp; done) | (simp; omega)) hb1.size
  obtain ⟨f0, f1, f2⟩ := held3 hb1 (b := w.heap.size) (v0 := .int .i64 L.start) (v1 := .slice A n c) (v2 := .slice A' n' c') (by first | omega | (simp; done) | (simp; omega)) (by simp [go_sem])
  have F := fun W (hW : Below w1.heap.size w1 W) => Lib.hid (held3 hW hz1 ⟨f0, f1, f2⟩)
  clear KU hb1
  go_upto_if 37 with fail
  go_cut [7] from 38 to 46 (fun d wx => d = .int .i64 dd ∧ w1 = wx)
  case first =>
    rcases HRL.out with ⟨rfl, rfl⟩ | ⟨q, rfl, hq⟩
    · go_wp2_with fail
      go_meet
      exact ⟨rfl, rfl⟩
    · obtain ⟨b, o, rfl, cx⟩ := (hq _ hB1).out
      have i1 : (0 : Int) < (q : Int) + 1 := by omega
      have i2 : IntKind.i64.wrap ((q : Int) + 1 - 1) = q := by rw [show (q : Int) + 1 - 1 = q by omega]; exact IntWalk.i64_in _ (by omega)
      clear hq
      go_wp2_with fail
      go_meet
      exact ⟨rfl, rfl⟩
  case rest =>
    obtain ⟨rfl, rfl⟩ := hcut
    obtain ⟨y, hy⟩ : ∃ y, badOf L r x = y := ⟨_, rfl⟩
    have HY := Lib.hid hy
    clear hy
    go_upto_block 0 with fail
    go_cut [] from 52 to 101 (fun wx => (w1.alloc (.cells #[.int .i64 dd, .int .i64 L.start, .int .u8 1, .int .i64 1] 47)).alloc (.cells #[.int .i64 y.day, .int .i64 y.month, .int .u8 y.kind, .int .i64 y.amount] 47) = wx)
    case first =>
      have hr' : r = 0 ∨ r = 1 ∨ r = 2 ∨ r = 3 ∨ r = 4 ∨ r = 5 ∨ r = 6 ∨ r = 7 ∨ r = 8 := by omega
      have hy := HY.out
      have m0 : (if x < 65536 then (65536 : Int) else x) = imax x 65536 := rfl
      have m1 : (if dd - 1 < x then dd - 1 else x) = imin x (dd - 1) := rfl
      have m2 : (if L.start - 1 < x then L.start - 1 else x) = imin x (L.start - 1) := rfl
      have m3 : (if x < L.start + n then L.start + n else x) = imax x (L.start + n) := rfl
      have m6 : (if x < 1099511627777 then (1099511627777 : Int) else x) = imax x 1099511627777 := rfl
      rcases hr' with hr0 | hr0 | hr0 | hr0 | hr0 | hr0 | hr0 | hr0 | hr0
      · as_aux_lemma =>
        have e0 : ((r : Int) == 0) = true := by rw [beq_iff_eq]; omega
        rw [hr0] at hy
        clear hr0 hrem KW F HRL HI HY
        simp only [badOf] at hy
        generalize imax x 65536 = v0 at *
        subst hy
        go_wp2_with fail
        go_meet
        rfl
      · as_aux_lemma =>
        have e0 : ((r : Int) == 0) = false := by rw [beq_eq_false_iff_ne]; omega
        have e1 : ((r : Int) == 1) = true := by rw [beq_iff_eq]; omega
        rw [hr0] at hy
        clear hr0 hrem KW F HRL HI HY
        simp only [badOf, HDD.out] at hy
        generalize imin x (dd - 1) = v0 at *
        subst hy
        go_wp2_with fail
        go_meet
        rfl
      · as_aux_lemma =>
        have e0 : ((r : Int) == 0) = false := by rw [beq_eq_false_iff_ne]; omega
        have e1 : ((r : Int) == 1) = false := by rw [beq_eq_false_iff_ne]; omega
        have e2 : ((r : Int) == 2) = true := by rw [beq_iff_eq]; omega
        rw [hr0] at hy
        clear hr0 hrem KW F HRL HI HY
        simp only [badOf, HDD.out] at hy
        generalize imin x (L.start - 1) = v0 at *
        subst hy
        go_wp2_with fail
        go_meet
        rfl
      · as_aux_lemma =>
        have e0 : ((r : Int) == 0) = false := by rw [beq_eq_false_iff_ne]; omega
        have e1 : ((r : Int) == 1) = false := by rw [beq_eq_false_iff_ne]; omega
        have e2 : ((r : Int) == 2) = false := by rw [beq_eq_false_iff_ne]; omega
        have e3 : ((r : Int) == 3) = true := by rw [beq_iff_eq]; omega
        rw [hr0] at hy
        clear hr0 hrem KW F HRL HI HY
        simp only [badOf, HDD.out, HLEN.out] at hy
        generalize imax x (L.start + n) = v0 at *
        subst hy
        go_wp2_with fail
        go_meet
        rfl
      · as_aux_lemma =>
        have e0 : ((r : Int) == 0) = false := by rw [beq_eq_false_iff_ne]; omega
        have e1 : ((r : Int) == 1) = false := by rw [beq_eq_false_iff_ne]; omega
        have e2 : ((r : Int) == 2) = false := by rw [beq_eq_false_iff_ne]; omega
        have e3 : ((r : Int) == 3) = false := by rw [beq_eq_false_iff_ne]; omega
        have e4 : ((r : Int) == 4) = true := by rw [beq_iff_eq]; omega
        rw [hr0] at hy
        clear hr0 hrem KW F HRL HI HY
        simp only [badOf, HDD.out] at hy
        subst hy
        go_wp2_with fail
        go_meet
        rfl
      · as_aux_lemma =>
        have e0 : ((r : Int) == 0) = false := by rw [beq_eq_false_iff_ne]; omega
        have e1 : ((r : Int) == 1) = false := by rw [beq_eq_false_iff_ne]; omega
        have e2 : ((r : Int) == 2) = false := by rw [beq_eq_false_iff_ne]; omega
        have e3 : ((r : Int) == 3) = false := by rw [beq_eq_false_iff_ne]; omega
        have e4 : ((r : Int) == 4) = false := by rw [beq_eq_false_iff_ne]; omega
        have e5 : ((r : Int) == 5) = true := by rw [beq_iff_eq]; omega
        rw [hr0] at hy
        clear hr0 hrem KW F HRL HI HY
        simp only [badOf, HDD.out] at hy
        subst hy
        go_wp2_with fail
        go_meet
        rfl
      · as_aux_lemma =>
        have e0 : ((r : Int) == 0) = false := by rw [beq_eq_false_iff_ne]; omega
        have e1 : ((r : Int) == 1) = false := by rw [beq_eq_false_iff_ne]; omega
        have e2 : ((r : Int) == 2) = false := by rw [beq_eq_false_iff_ne]; omega
        have e3 : ((r : Int) == 3) = false := by rw [beq_eq_false_iff_ne]; omega
        have e4 : ((r : Int) == 4) = false := by rw [beq_eq_false_iff_ne]; omega
        have e5 : ((r : Int) == 5) = false := by rw [beq_eq_false_iff_ne]; omega
        have e6 : ((r : Int) == 6) = true := by rw [beq_iff_eq]; omega
        rw [hr0] at hy
        clear hr0 hrem KW F HRL HI HY
        simp only [badOf, HDD.out] at hy
        generalize imax x 1099511627777 = v0 at *
        subst hy
        go_wp2_with fail
        go_meet
        rfl
      · as_aux_lemma =>
        have e0 : ((r : Int) == 0) = false := by rw [beq_eq_false_iff_ne]; omega
        have e1 : ((r : Int) == 1) = false := by rw [beq_eq_false_iff_ne]; omega
        have e2 : ((r : Int) == 2) = false := by rw [beq_eq_false_iff_ne]; omega
        have e3 : ((r : Int) == 3) = false := by rw [beq_eq_false_iff_ne]; omega
        have e4 : ((r : Int) == 4) = false := by rw [beq_eq_false_iff_ne]; omega
        have e5 : ((r : Int) == 5) = false := by rw [beq_eq_false_iff_ne]; omega
        have e6 : ((r : Int) == 6) = false := by rw [beq_eq_false_iff_ne]; omega
        have e7 : ((r : Int) == 7) = true := by rw [beq_iff_eq]; omega
        rw [hr0] at hy
        clear hr0 hrem KW F HRL HI HY
        simp only [badOf, HDD.out] at hy
        subst hy
        go_wp2_with fail
        go_meet
        rfl
      · as_aux_lemma =>
        have e0 : ((r : Int) == 0) = false := by rw [beq_eq_false_iff_ne]; omega
        have e1 : ((r : Int) == 1) = false := by rw [beq_eq_false_iff_ne]; omega
        have e2 : ((r : Int) == 2) = false := by rw [beq_eq_false_iff_ne]; omega
        have e3 : ((r : Int) == 3) = false := by rw [beq_eq_false_iff_ne]; omega
        have e4 : ((r : Int) == 4) = false := by rw [beq_eq_false_iff_ne]; omega
        have e5 : ((r : Int) == 5) = false := by rw [beq_eq_false_iff_ne]; omega
        have e6 : ((r : Int) == 6) = false := by rw [beq_eq_false_iff_ne]; omega
        have e7 : ((r : Int) == 7) = false := by rw [beq_eq_false_iff_ne]; omega
        have e8 : ((r : Int) == 8) = true := by rw [beq_iff_eq]; omega
        rw [hr0] at hy
        clear hr0 hrem KW F HRL HI HY
        simp only [badOf, HDD.out] at hy
        subst hy
        go_wp2_with fail
        go_meet
        rfl
    case rest =>
      obtain ⟨wb, rfl⟩ : ∃ wb : World, wb = wc := ⟨_, rfl⟩
      obtain ⟨hw2, hs2, hgood, hbad⟩ : Below w1.heap.size w1 wb ∧ wb.heap.size = w1.heap.size + 2 ∧ wb.heap[w1.heap.size]? = some (.cells #[.int .i64 dd, .int .i64 L.start, .int .u8 1, .int .i64 1] 47 (0, 0)) ∧ wb.heap[w1.heap.size + 1]? = some (.cells #[.int .i64 y.day, .int .i64 y.month, .int .u8 y.kind, .int .i64 y.amount] 47 (0, 0)) := by
        rw [← hcut]
        refine ⟨by go_grown, by simp, (Below.heap_alloc _ _ _ (by simp)).trans (heap_at rfl), heap_at (by simp)⟩
      have B2 := after hB1 hw2
      have FG := fun W (hW : Below wb.heap.size wb W) => Lib.hid (held4 hW (by omega) hgood)
      have FB := fun W (hW : Below wb.heap.size wb W) => Lib.hid (held4 hW (by omega) hbad)
      have FF := fun W (hW : Below wb.heap.size wb W) => F W (after hw2 hW)
      have hyok : okP L [y] = false := by rw [← HY.out]; exact bad_no hv hr9 x
      have hywf : y.wf := by rw [← HY.out]; exact bad_wf hv x0 x1
      have HBAD := Lib.hid hbad
      clear hcut f0 f1 f2 hgood hbad HY
      obtain ⟨f0, f1, f2⟩ := (FF _ (Below.refl _ _)).out
      obtain ⟨p0, p1, p2, p3⟩ := (FG _ (Below.refl _ _)).out
      go_wp2_with fail
      refine (KPg _ _ (B2.trans (by go_grown)) (by rw [HG.out]; exact paid_in (by simp; omega) (heap_at (by omega)))).out.mono ?_
      rintro e w3 ⟨A3, c3, A3', c3', rfl, _, hb3⟩
      have E3 : Below wb.heap.size wb w3 := after (by go_grown) hb3
      have hs3 : w1.heap.size + 2 < w3.heap.size := by have := hb3.size; simp at this; omega
      clear f0 f1 f2 p0 p1 p2 p3 KPg FG hb3
      obtain ⟨f0, f1, f2⟩ := (FF _ E3).out
      have fz : w.heap.size < w3.heap.size := by have := Below.size E3; omega
      obtain ⟨p0, p1, p2, p3⟩ := (FB _ E3).out
      have pz : w1.heap.size + 1 < w3.heap.size := by omega
      dsimp only
      generalize hss : L.start = s at *
      generalize (L.plus [goodOf L]).start = s3 at *
      generalize (L.plus [goodOf L]).due.length = n3 at *
      generalize (L.plus [goodOf L]).posts.length = n3' at *
      have HSS := Lib.hid hss
      clear hss
      go_wp2_with fail
      refine (KPb _ _ y hyok hywf (after B2 (after E3 (by go_grown))) (paid_in (by simp) (heap_at (by simp)))).out.mono ?_
      rintro e w4 ⟨A4, c4, A4', c4', rfl, hb4⟩
      have E4 : Below wb.heap.size wb w4 := after E3 (after (by go_grown) hb4)
      have hs4 : w3.heap.size + 1 < w4.heap.size := by have := hb4.size; simp at this; omega
      clear f0 f1 f2 fz
      clear p0 p1 p2 p3 pz hb4
      obtain ⟨f0, f1, f2⟩ := (FF _ E4).out
      have fz : w.heap.size < w4.heap.size := by have := Below.size E4; omega
      go_wp2_with fail
      refine (KC _ (after B2 (after E4 (by go_grown)))).out.mono ?_
      rintro e w5 ⟨A5, c5, A5', c5', rfl, ⟨hd5, hp5⟩, hb5⟩
      have E5 : Below wb.heap.size wb w5 := after E4 (after (by go_grown) hb5)
      have M5 : w5.heap[w4.heap.size]? = some (.cells #[.int .i64 0, .slice A4 0 c4, .slice A4' 0 c4'] 25 (0, 0)) := (hb5.block _ (by simp)).trans (heap_at rfl)
      have hs5 : w4.heap.size + 1 ≤ w5.heap.size := by have := hb5.size; simpa using this
      rw [show (w4.alloc (.cells #[.int .i64 0, .slice A4 0 c4, .slice A4' 0 c4'] 25)).heap.size = w4.heap.size + 1 by simp] at hd5 hp5
      have hs5' : w4.heap.size < w5.heap.size := by omega
      rw [HLEN.out] at hd5
      rw [HLEN'.out] at hp5
      clear f0 f1 f2 fz
      clear hb5
      obtain ⟨f0, f1, f2⟩ := (FF _ E5).out
      have fz : w.heap.size < w5.heap.size := by have := Below.size E5; omega
      obtain ⟨p0, p1, p2, p3⟩ := (FB _ E5).out
      have pz : w1.heap.size + 1 < w5.heap.size := by omega
      go_upto_region 33 with (at_builtin; go_must (refine elemPaid.list_append rfl (.tmp 121) (.tmp 123) rfl rfl ((hp5.alloc _).alloc _) rfl (paid_in (p := y) (B := w5.heap.size + 2) (by omega) (heap_at (by simp))).reads (paids_one _) (by unfold maxLen; omega) (by omega) (by simp; omega) ?_; intro v6 w6 hown6 hg6 hat6; obtain ⟨A6, c6, hv6, _⟩ := own_shape hown6; subst hv6; have hx6 := wrong_row hp5 hg6; have q0 := cell_of_row _ _ 0 _ _ _ hx6; have q1 := cell_of_row _ _ 1 _ _ _ hx6; have q2 := cell_of_row _ _ 2 _ _ _ hx6; have r2 := frozen_of_row _ _ 2 _ _ hx6; simp at q0 q1 q2))
      obtain ⟨ow7, b7⟩ := wrong_append HLEN.out HLEN'.out hd5 hp5 hown6 hg6 hat6 hs5 (.slice A6 (n' + 1) c6)
      have hn7 : (w6.setCell ⟨w5.heap.size, 2, none⟩ (.slice A6 (n' + 1) c6)).heap[w5.heap.size]? = some (.cells #[.int .i64 s, .slice A5 n c5, .slice A6 (n' + 1) c6] 25 (0, 0)) := set_row hx6 _
      generalize World.setCell w6 _ _ = w7 at *
      have E7 : Below wb.heap.size wb w7 := E5.trans (b7.mono (by omega))
      have hs7 : w5.heap.size ≤ w7.heap.size := b7.size
      clear hg6 hat6 hown6 hx6 q0 q1 q2 r2 p0 p1 p2 p3 pz hp5 hd5 FB
      clear f0 f1 f2 fz
      have J7 : InA w1 L (w4.heap.size + 1) (w1.heap.size + 1) w4.heap.size w5.heap.size A5 n c5 A6 n' c6 y y (.slice A4 0 c4) (.slice A4' 0 c4') w7 :=
        ⟨after hw2 E7, (E7.block _ (by omega)).trans HBAD.out, (b7.block _ (by omega)).trans M5, by rw [HSS.out]; exact hn7, ow7⟩
      have T7 := J7.tail HI.out hywf hyok
      clear hn7 M5 ow7
      have HT7 := Lib.hid T7
      obtain ⟨cA, hcA⟩ : ∃ cA : Bool, decide (r = 1 ∧ n' = 0) = cA := ⟨_, rfl⟩
      clear T7
      go_cut [134] from 126 to 134 (fun v wx => v = .bool cA ∧ w7 = wx)
      case first =>
        have HCA := Lib.hid hcA
        clear hcA
        obtain ⟨f0, f1, f2⟩ := (FF _ E7).out
        have fz : w.heap.size < w7.heap.size := by have := Below.size E7; omega
        by_cases hr1 : r = 1
        · have e1 : ((r : Int) == 1) = true := by rw [beq_iff_eq]; omega
          by_cases hn' : n' = 0
          · have e2 : ((n' : Int) == 0) = true := by rw [beq_iff_eq]; omega
            have : cA = true := by rw [← HCA.out]; simp [hr1, hn']
            subst this
            clear hr1 hn'
            go_wp2_with fail
            go_meet
            exact ⟨rfl, rfl⟩
          · have e2 : ((n' : Int) == 0) = false := by rw [beq_eq_false_iff_ne]; omega
            have : cA = false := by rw [← HCA.out]; simp [hn']
            subst this
            clear hr1 hn'
            go_wp2_with fail
            go_meet
            exact ⟨rfl, rfl⟩
        · have e1 : ((r : Int) == 1) = false := by rw [beq_eq_false_iff_ne]; omega
          have : cA = false := by rw [← HCA.out]; simp [hr1]
          subst this
          clear hr1
          go_wp2_with fail
          go_meet
          exact ⟨rfl, rfl⟩
      case rest =>
        obtain ⟨rfl, rfl⟩ := hcut
        have HCA := Lib.hid hcA
        clear hcA
        go_upto_if 134 with fail
        go_cut [13] from 135 to 146 (fun e wx => WrongTail w1 L n n' w4.heap.size w5.heap.size e wx)
        case first =>
          cases cA
          · go_wp2_with fail
            go_meet
            exact HT7.out
          · have hc := of_decide_eq_true HCA.out
            have hLp : L.posts = [] := List.eq_nil_of_length_eq_zero (by rw [HLEN'.out]; exact hc.2)
            have i0 : (0 : Int) < (n' : Int) + 1 := by omega
            have i0' : 0 < n' + 1 := by omega
            obtain ⟨g, rfl, hg1, hg2, _⟩ := J7.spot HLEN'.out
            have hok' : okP L [⟨-1, y.month, y.kind, y.amount⟩] = false := by
              rw [okP_one hv, Bool.and_eq_false_iff]
              exact .inl (decide_eq_false (fun h => by have := h.1.1; dsimp only at this; omega))
            have hwf' : Paid.wf ⟨-1, y.month, y.kind, y.amount⟩ := ⟨by simp, by simp, hywf.m0, hywf.m1, hywf.k0, hywf.k1, hywf.a0, hywf.a1⟩
            have J8 := J7.day (Nat.le_succ _) (by omega) (Nat.lt_succ_self _) (by omega) (-1)
            have p0 : w7.cell? ⟨w1.heap.size + 1, 0, none⟩ = some (.int .i64 y.day) := cell_of_row _ _ 0 _ _ _ J7.bad
            have p1 : w7.cell? ⟨w1.heap.size + 1, 1, none⟩ = some (.int .i64 y.month) := cell_of_row _ _ 1 _ _ _ J7.bad
            have p2 : w7.cell? ⟨w1.heap.size + 1, 2, none⟩ = some (.int .u8 y.kind) := cell_of_row _ _ 2 _ _ _ J7.bad
            have p3 : w7.cell? ⟨w1.heap.size + 1, 3, none⟩ = some (.int .i64 y.amount) := cell_of_row _ _ 3 _ _ _ J7.bad
            have y0 := frozen_of_row _ _ 0 _ _ J7.bad
            have pz : w1.heap.size + 1 < w7.heap.size := row_lt J7.bad
            have HLP := Lib.hid hLp
            obtain ⟨f0, f1, f2⟩ := (FF _ E7).out
            have fz : w.heap.size < w7.heap.size := by have := Below.size E7; omega
            have hnb : w.heap.size ≠ w1.heap.size + 1 := by omega
            clear HCA hc hLp HT7
            go_wp2_with fail
            have hs8 : (w7.setCell ⟨w1.heap.size + 1, 0, none⟩ (.int .i64 (-1))).heap.size = w7.heap.size := by simp
            generalize World.setCell w7 _ _ = w8 at *
            refine (KPb _ _ ⟨-1, y.month, y.kind, y.amount⟩ hok' hwf' (after hB1 (after J8.below (by go_grown))) (paid_in (by simp; omega) (heap_at (by omega)))).out.mono ?_
            rintro e w9 ⟨A9, c9, A9', c9', rfl, hb9⟩
            have J9 := J8.kept (after (by go_grown) hb9)
            clear J7 J8 hb9 p0 p1 p2 p3 y0 pz
            clear f0 f1 f2 fz
            have x0 : w9.cell? ⟨w4.heap.size, 0, none⟩ = some (.int .i64 0) := cell_of_row _ _ 0 _ _ _ J9.m
            have x1 : w9.cell? ⟨w4.heap.size, 1, none⟩ = some (.slice A4 0 c4) := cell_of_row _ _ 1 _ _ _ J9.m
            have x2 : w9.cell? ⟨w4.heap.size, 2, none⟩ = some (.slice A4' 0 c4') := cell_of_row _ _ 2 _ _ _ J9.m
            have y0 := frozen_of_row _ _ 0 _ _ J9.m
            have y1 := frozen_of_row _ _ 1 _ _ J9.m
            have y2 := frozen_of_row _ _ 2 _ _ J9.m
            go_upto_region 36 with fail
            have J10 := J9.store (Nat.le_succ _) (by omega) (Nat.lt_succ_self _) (by omega) (.slice A9 0 c9) (.slice A9' 0 c9')
            clear x0 x1 x2 y0 y1 y2 J9
            generalize World.setCell (World.setCell (World.setCell w9 _ _) _ _) _ _ = w10 at *
            obtain ⟨g', hgg, _, _, ho⟩ := J10.spot HLEN'.out
            injection hgg with hgg
            injection hgg with hgg
            subst hgg
            have hzn : n' = 0 := by rw [← HLEN'.out, HLP.out]; rfl
            rw [HLP.out, List.nil_append] at ho
            have n2 : w10.cell? ⟨w5.heap.size, 2, none⟩ = some (.slice (some ⟨g, 0, none⟩) (n' + 1) c6) := cell_of_row _ _ 2 _ _ _ J10.n
            have p0 : w10.cell? ⟨w1.heap.size + 1, 0, none⟩ = some (.int .i64 (-1)) := cell_of_row _ _ 0 _ _ _ J10.bad
            have p1 : w10.cell? ⟨w1.heap.size + 1, 1, none⟩ = some (.int .i64 y.month) := cell_of_row _ _ 1 _ _ _ J10.bad
            have p2 : w10.cell? ⟨w1.heap.size + 1, 2, none⟩ = some (.int .u8 y.kind) := cell_of_row _ _ 2 _ _ _ J10.bad
            have p3 : w10.cell? ⟨w1.heap.size + 1, 3, none⟩ = some (.int .i64 y.amount) := cell_of_row _ _ 3 _ _ _ J10.bad
            subst hzn
            obtain ⟨x0, x1, x2, x3⟩ := own_cells ho (j := 0) rfl
            have y0 := ho.frozenAt 0
            have y1 := ho.frozenAt 1
            have y2 := ho.frozenAt 2
            have y3 := ho.frozenAt 3
            simp only [Nat.zero_mul, Nat.zero_add] at x0 x1 x2 x3
            go_wp2_with fail
            go_meet
            exact (J10.put HLP.out (Nat.le_succ _) (by omega) (Nat.lt_succ_self _) hg1 hg2 ⟨-1, y.month, y.kind, y.amount⟩).tail HI.out hwf' hok'
        case rest =>
          obtain ⟨p, A1, c1, A2, c2, A3, c3, A4, c4, rfl, bx, hok, hled, l12, l14, hm, hk⟩ := hcut
          rw [HSS.out] at hk
          have FT := fun W (hW : Below wc.heap.size wc W) => Lib.hid (And.intro (held3 hW l12 hm) (held3 hW l14 hk))
          have hs9 : w.heap.size < w5.heap.size := by omega
          have k5 : w4.heap.size < w5.heap.size := by omega
          have HN : L.plus [p] = L.plus [p] := rfl
          have e1 : (L.plus [p]).start = s := HSS.out
          have KN : ∀ W, Below wc.heap.size wc W → Hid (Calls Try.prog 13 #[.agg #[.int .i64 s, .slice A1 n c1, .slice A2 (n' + 1) c2], .int .i64 s, .int .i64 0] W fun e w' => ∃ A1 c1 A2 c2, e = .returned (.tuple #[.agg #[.int .i64 0, .slice A1 0 c1, .slice A2 0 c2], .int .i64 2]) ∧ Below W.heap.size W w') := by
            intro W hW
            have := learn_any A1 n c1 A2 (n' + 1) c2 (L.plus [p]) s 0 W (hled.to hW) (by omega)
            rw [learn_invalid (plus_invalid hok), e1] at this
            exact this.mono fun _ _ h => gives_none h
          have KV : ∀ W, Below wc.heap.size wc W → Hid (Calls Try.prog 15 #[.agg #[.int .i64 s, .slice A1 n c1, .slice A2 (n' + 1) c2]] W fun e w' => e = .returned (.bool false) ∧ Below W.heap.size W w') := by
            intro W hW
            have := valid_any A1 n c1 A2 (n' + 1) c2 (L.plus [p]) W (hled.to hW)
            rw [plus_invalid hok, e1] at this
            exact this
          have KZ : ∀ W A c A' c', Hid (Calls Try.prog 14 #[.agg #[.int .i64 0, .slice A 0 c, .slice A' 0 c'], .agg #[.int .i64 0, .slice none 0 0, .slice none 0 0]] W fun e w' => e = .returned (.bool true) ∧ Below W.heap.size W w') := fun W A c A' c' =>
            same_true 0 [] [] A none A' none 0 c 0 0 c' 0 W ⟨rfl, Reads.of_nil⟩ ⟨rfl, Reads.of_nil⟩ ⟨rfl, Reads.of_nil⟩ ⟨rfl, Reads.of_nil⟩ (by omega) (by omega)
          have L1 : learnR L s (imin x (-1)) = (Led.zero, 2) := learn_amount L _ _ (.inl (by unfold imin; split <;> omega))
          have L2 : learnR L s (imax x 1099511627777) = (Led.zero, 2) := learn_amount L _ _ (.inr (by unfold imax; split <;> omega))
          have L3 : learnR L (s + n + 1) 0 = (Led.zero, 2) := by have := learn_month L 0; rw [HSS.out, HLEN.out] at this; exact this
          have i1 : (if (-1 : Int) < x then -1 else x) = imin x (-1) := rfl
          have i2 : (if x < 1099511627777 then (1099511627777 : Int) else x) = imax x 1099511627777 := rfl
          generalize imin x (-1) = v1 at *
          generalize imax x 1099511627777 = v2 at *
          have BX := after hB1 bx
          have fw : w.heap.size < wc.heap.size := by have := bx.size; omega
          have HL1 := Lib.hid L1
          have HL2 := Lib.hid L2
          have HL3 := Lib.hid L3
          clear HN e1 hled L1 L2 L3
          have R0 : Below wc.heap.size wc wc := Below.refl _ _
          obtain ⟨f0, f1, f2⟩ := (F _ (after bx R0)).out
          have fz : w.heap.size < wc.heap.size := by have := Below.size R0; omega
          obtain ⟨⟨m0, m1, m2⟩, k0, k1, k2⟩ := (FT _ R0).out
          have mz : w4.heap.size < wc.heap.size := by have := Below.size R0; omega
          have kz : w5.heap.size < wc.heap.size := by have := Below.size R0; omega
          go_wp2_with fail
          refine (KL _ s v1 HL1.out (by omega) BX).out.mono ?_
          rintro e wp ⟨P1, d1, P2, d2, rfl, hbp⟩
          have Rp := after R0 hbp
          clear f0 f1 f2 fz m0 m1 m2 k0 k1 k2 mz kz
          have hbxwp := (boxed3 wp (.int .i64 0) (.slice P1 0 d1) (.slice P2 0 d2) 25)
          have Zwp := fun W (hW : Below (wp.alloc (.cells #[.int .i64 0, .slice P1 0 d1, .slice P2 0 d2] 25)).heap.size (wp.alloc (.cells #[.int .i64 0, .slice P1 0 d1, .slice P2 0 d2] 25)) W) => Lib.hid (held3 hW hbxwp.2.1 hbxwp.2.2)
          clear hbxwp
          obtain ⟨f0, f1, f2⟩ := (F _ (after bx Rp)).out
          have fz : w.heap.size < wp.heap.size := by have := Below.size Rp; omega
          obtain ⟨⟨m0, m1, m2⟩, k0, k1, k2⟩ := (FT _ Rp).out
          have mz : w4.heap.size < wp.heap.size := by have := Below.size Rp; omega
          have kz : w5.heap.size < wp.heap.size := by have := Below.size Rp; omega
          go_wp2_with fail
          refine (KL _ s v2 HL2.out (by omega) (after BX (after Rp (by go_grown)))).out.mono ?_
          rintro e wq ⟨Q1, d3, Q2, d4, rfl, hbq⟩
          have Rq := after Rp (after (by go_grown) hbq)
          clear f0 f1 f2 fz m0 m1 m2 k0 k1 k2 mz kz
          have hbxwq := (boxed3 wq (.int .i64 0) (.slice Q1 0 d3) (.slice Q2 0 d4) 25)
          have Zwq := fun W (hW : Below (wq.alloc (.cells #[.int .i64 0, .slice Q1 0 d3, .slice Q2 0 d4] 25)).heap.size (wq.alloc (.cells #[.int .i64 0, .slice Q1 0 d3, .slice Q2 0 d4] 25)) W) => Lib.hid (held3 hW hbxwq.2.1 hbxwq.2.2)
          clear hbxwq
          obtain ⟨f0, f1, f2⟩ := (F _ (after bx Rq)).out
          have fz : w.heap.size < wq.heap.size := by have := Below.size Rq; omega
          obtain ⟨⟨m0, m1, m2⟩, k0, k1, k2⟩ := (FT _ Rq).out
          have mz : w4.heap.size < wq.heap.size := by have := Below.size Rq; omega
          have kz : w5.heap.size < wq.heap.size := by have := Below.size Rq; omega
          go_wp2_with fail
          refine (KL _ (s + n + 1) 0 HL3.out (by omega) (after BX (after Rq (by go_grown)))).out.mono ?_
          rintro e wt ⟨T1, d5, T2, d6, rfl, hbt⟩
          have Rt := after Rq (after (by go_grown) hbt)
          clear f0 f1 f2 fz m0 m1 m2 k0 k1 k2 mz kz
          have hbxwt := (boxed3 wt (.int .i64 0) (.slice T1 0 d5) (.slice T2 0 d6) 25)
          have Zwt := fun W (hW : Below (wt.alloc (.cells #[.int .i64 0, .slice T1 0 d5, .slice T2 0 d6] 25)).heap.size (wt.alloc (.cells #[.int .i64 0, .slice T1 0 d5, .slice T2 0 d6] 25)) W) => Lib.hid (held3 hW hbxwt.2.1 hbxwt.2.2)
          clear hbxwt
          obtain ⟨f0, f1, f2⟩ := (F _ (after bx Rt)).out
          have fz : w.heap.size < wt.heap.size := by have := Below.size Rt; omega
          obtain ⟨⟨m0, m1, m2⟩, k0, k1, k2⟩ := (FT _ Rt).out
          have mz : w4.heap.size < wt.heap.size := by have := Below.size Rt; omega
          have kz : w5.heap.size < wt.heap.size := by have := Below.size Rt; omega
          go_wp2_with fail
          refine (KN _ (after Rt (by go_grown))).out.mono ?_
          rintro e wu ⟨U1, d7, U2, d8, rfl, hbu⟩
          have Ru := after Rt (after (by go_grown) hbu)
          clear f0 f1 f2 fz m0 m1 m2 k0 k1 k2 mz kz
          have cq := after hbt (after (by go_grown) hbu)
          have cp := after (after hbq (after (by go_grown) hbt)) (after (by go_grown) hbu)
          have hz := (boxed3 (wu.alloc (.cells #[.int .i64 0, .slice U1 0 d7, .slice U2 0 d8] 25)) (.int .i64 0) (.slice none 0 0) (.slice none 0 0) 25).2
          rw [show (wu.alloc (.cells #[.int .i64 0, .slice U1 0 d7, .slice U2 0 d8] 25)).heap.size = wu.heap.size + 1 by simp] at hz
          have cv : Below wu.heap.size wu ((wu.alloc (.cells #[.int .i64 0, .slice U1 0 d7, .slice U2 0 d8] 25)).alloc (.cells #[.int .i64 0, .slice none 0 0, .slice none 0 0] 25)) := by go_grown
          obtain ⟨f0, f1, f2⟩ := (F _ (after bx Ru)).out
          have fz : w.heap.size < wu.heap.size := by have := Below.size Ru; omega
          obtain ⟨⟨m0, m1, m2⟩, k0, k1, k2⟩ := (FT _ Ru).out
          have mz : w4.heap.size < wu.heap.size := by have := Below.size Ru; omega
          have kz : w5.heap.size < wu.heap.size := by have := Below.size Ru; omega
          go_wp2_with fail
          generalize World.alloc (World.alloc wu _) _ = V0 at *
          refine (KZ _ A3 c3 A4 c4).out.mono ?_
          rintro e x1 ⟨rfl, hx1⟩
          have Rx1 := after Ru (after cv hx1)
          clear f0 f1 f2 fz m0 m1 m2 k0 k1 k2 mz kz
          obtain ⟨f0, f1, f2⟩ := (F _ (after bx Rx1)).out
          have fz : w.heap.size < x1.heap.size := by have := Below.size Rx1; omega
          obtain ⟨⟨m0, m1, m2⟩, k0, k1, k2⟩ := (FT _ Rx1).out
          have mz : w4.heap.size < x1.heap.size := by have := Below.size Rx1; omega
          have kz : w5.heap.size < x1.heap.size := by have := Below.size Rx1; omega
          go_wp2_with fail
          refine (KV _ Rx1).out.mono ?_
          rintro e x2 ⟨rfl, hx2⟩
          clear f0 f1 f2 fz m0 m1 m2 k0 k1 k2 mz kz
          have hx12 := after hx1 hx2
          obtain ⟨f0, f1, f2⟩ := (Zwp _ (after cp (after cv hx12))).out
          obtain ⟨m0, m1, m2⟩ := held3 hx12 hz.1 hz.2
          go_wp2_with fail
          refine (KZ _ P1 d1 P2 d2).out.mono ?_
          rintro e x3 ⟨rfl, hx3⟩
          clear f0 f1 f2 m0 m1 m2
          have hx13 := after hx12 hx3
          obtain ⟨f0, f1, f2⟩ := (Zwq _ (after cq (after cv hx13))).out
          obtain ⟨m0, m1, m2⟩ := held3 hx13 hz.1 hz.2
          go_wp2_with fail
          refine (KZ _ Q1 d3 Q2 d4).out.mono ?_
          rintro e x4 ⟨rfl, hx4⟩
          clear f0 f1 f2 m0 m1 m2
          have hx14 := after hx13 hx4
          obtain ⟨f0, f1, f2⟩ := (Zwt _ (after hbu (after cv hx14))).out
          obtain ⟨m0, m1, m2⟩ := held3 hx14 hz.1 hz.2
          go_wp2_with fail
          refine (KZ _ T1 d5 T2 d6).out.mono ?_
          rintro e x5 ⟨rfl, hx5⟩
          have hx15 := after hx14 hx5
          clear f0 f1 f2 m0 m1 m2
          go_wp2_with fail
          refine (KW _).out.mono ?_
          rintro e x6 ⟨rfl, hx6⟩
          have B9 := after BX (after Ru (after cv (after hx15 hx6)))
          go_wp2
          go_ret
          exact ⟨rfl, B9⟩

set_option maxRecDepth 100000 in
set_option maxHeartbeats 1000000 in
theorem wrong_walk (A : Option Addr) (n c : Nat) (A' : Option Addr) (n' c' : Nat) (L : Led) (a x : Int) (w : World) (h : LedIn w w.heap.size A n A' n' L) (a0 : 0 ≤ a) (a1 : a ≤ 255) (x0 : -9223372036854775808 ≤ x) (x1 : x ≤ 9223372036854775807) :
    Calls Try.prog 10 #[.agg #[.int .i64 L.start, .slice A n c, .slice A' n' c'], .int .u8 a, .int .i64 x] w fun e w' => e = .returned (.bool true) ∧ Below w.heap.size w w' := by
  have KU := fun W hW => Lib.hid (usable_any A n c A' n' c' L W (h.to (w' := W) hW))
  have KW := fun W => Lib.hid (awake_any W)
  cases hu : usableB L
  · clear h
    go_enter Try.func10, Try.ntmps10
    go_wp2_with fail
    refine (KU _ (by go_grown)).out.mono ?_
    rintro e w1 ⟨rfl, hb1⟩
    have hB1 : Below w.heap.size w w1 := after (by go_grown) hb1
    have hz1 : w.heap.size < w1.heap.size := Nat.lt_of_lt_of_le (by first | omega | (simp; done) | (simp; omega)) hb1.size
    obtain ⟨f0, f1, f2⟩ := held3 hb1 (b := w.heap.size) (v0 := .int .i64 L.start) (v1 := .slice A n c) (v2 := .slice A' n' c') (by first | omega | (simp; done) | (simp; omega)) (by simp [go_sem])
    rw [hu]
    clear KU hb1
    go_wp2_with fail
    refine (KW _).out.mono ?_
    rintro e w2 ⟨rfl, hb2⟩
    have hB2 := after hB1 hb2
    go_wp2
    go_ret
    exact ⟨rfl, hB2⟩
  · by_cases hn0 : 0 < n
    · exact wrong_main A n c A' n' c' L a x w h hu hn0 a0 a1 x0 x1
    · obtain rfl : n = 0 := by omega
      clear h hn0
      go_enter Try.func10, Try.ntmps10
      go_wp2_with fail
      refine (KU _ (by go_grown)).out.mono ?_
      rintro e w1 ⟨rfl, hb1⟩
      have hB1 : Below w.heap.size w w1 := after (by go_grown) hb1
      have hz1 : w.heap.size < w1.heap.size := Nat.lt_of_lt_of_le (by first | omega | (simp; done) | (simp; omega)) hb1.size
      obtain ⟨f0, f1, f2⟩ := held3 hb1 (b := w.heap.size) (v0 := .int .i64 L.start) (v1 := .slice A 0 c) (v2 := .slice A' n' c') (by first | omega | (simp; done) | (simp; omega)) (by simp [go_sem])
      rw [hu]
      clear KU hb1
      go_wp2_with fail
      refine (KW _).out.mono ?_
      rintro e w2 ⟨rfl, hb2⟩
      have hB2 := after hB1 hb2
      go_wp2
      go_ret
      exact ⟨rfl, hB2⟩
end Go.Proofs.Ytmaojcjnpblffaa
