/- JournalRuns: what its loops keep. -/
import Derived.Test.YtbkicepkkcambaaJouR8
import Derived.Test.YtbkicepkkcambaaJouTornA
import Derived.Deep.CutRange
namespace Go.Proofs.Ytbkicepkkcambaa
open Go.RowKit BigFrame Go.Shelf
set_option linter.unusedVariables false
set_option linter.unusedSimpArgs false

/-- A log in a box of type T, its data a row of the call's own. -/
def LgAt (T : TypeId) (w wr : World) (b : Nat) (lg : Lg) : Prop := ∃ A c, wr.heap[b]? = some (.cells #[.slice A lg.data.length c, .int .i64 lg.power, .int .i64 lg.count, .bool lg.down] T (0, 0)) ∧ wr.ownsRow w.heap.size 5 1 (.slice A lg.data.length c) lg.data.length (bys lg.data)
theorem LgAt.later {T : TypeId} {w wr wr' : World} {b : Nat} {lg : Lg} (h : LgAt T w wr b lg) (hb : Below wr.heap.size wr wr') : LgAt T w wr' b lg := by
  obtain ⟨A, c, h1, h2⟩ := h
  exact ⟨A, c, (hb.block b (row_lt h1)).trans h1, own_kept h2 hb (Nat.le_refl _)⟩
theorem LgAt.lt {T : TypeId} {w wr : World} {b : Nat} {lg : Lg} (h : LgAt T w wr b lg) : b < wr.heap.size := by
  obtain ⟨A, c, h1, h2⟩ := h
  exact row_lt h1
theorem LgAt.data_ {T : TypeId} {w wr : World} {b : Nat} {lg : Lg} (h : LgAt T w wr b lg) : ∃ A c, wr.heap[b]? = some (.cells #[.slice A lg.data.length c, .int .i64 lg.power, .int .i64 lg.count, .bool lg.down] T (0, 0)) ∧ lg.data.length ≤ c ∧ c ≤ 9223372036854775807 ∧ Bys wr wr.heap.size A lg.data.length lg.data := by
  obtain ⟨A, c, h1, h2⟩ := h
  exact ⟨A, c, h1, (own_cap h2).1, (own_cap h2).2, Bys.of_own h2⟩
theorem own_set4 {w wr : World} {n b : Nat} {v : Value} {xs : List Value} {cs : Array Value} {T : TypeId} {fr : Nat × Nat} (ho : wr.ownsRow w.heap.size 5 1 v n xs) (hr : wr.heap[b]? = some (.cells cs T fr)) (hT : 5 ≠ T) (u0 u1 u2 u3 : Value) : (set4 wr b u0 u1 u2 u3).ownsRow w.heap.size 5 1 v n xs := by
  have hne : ∀ q, v.ownBlock = some q → q ≠ b := fun q hq e => row_ne hr ho hT (hq.trans (congrArg some e))
  exact own_set (own_set (own_set (own_set ho hne _) hne _) hne _) hne _
theorem row_set4 {wr : World} {b b' : Nat} {o : Obj} (h : wr.heap[b]? = some o) (hne : b ≠ b') (u0 u1 u2 u3 : Value) : (set4 wr b' u0 u1 u2 u3).heap[b]? = some o :=
  far_row (far_row (far_row (far_row h hne _) hne _) hne _) hne _
theorem at_set4 {wr : World} {b : Nat} {T : TypeId} {fr : Nat × Nat} {v0 v1 v2 v3 : Value} (h : wr.heap[b]? = some (.cells #[v0, v1, v2, v3] T fr)) (u0 u1 u2 u3 : Value) : (set4 wr b u0 u1 u2 u3).heap[b]? = some (.cells #[u0, u1, u2, u3] T fr) :=
  set_row (k := 3) (set_row (k := 2) (set_row (k := 1) (set_row (k := 0) h u0) u1) u2) u3
theorem below_set4 {B : Nat} {w wr : World} {b : Nat} (h : Below B w wr) (hb : B ≤ b) (u0 u1 u2 u3 : Value) : Below B w (set4 wr b u0 u1 u2 u3) :=
  (((h.setCell hb _).setCell hb _).setCell hb _).setCell hb _
/-- Two logs are stored anew, in either order. -/
theorem store_two {T T' : TypeId} {w wr : World} {b b' : Nat} {lg : Lg} {A A' : Option Addr} {c c' : Nat} {v0 v1 v2 v3 v0' v1' v2' v3' : Value}
    (h : wr.heap[b]? = some (.cells #[v0, v1, v2, v3] T (0, 0))) (h' : wr.heap[b']? = some (.cells #[v0', v1', v2', v3'] T' (0, 0))) (hne : b ≠ b') (hT : 5 ≠ T) (hT' : 5 ≠ T') (hB : Below w.heap.size w wr) (hb : w.heap.size ≤ b) (hb' : w.heap.size ≤ b')
    (ho : wr.ownsRow w.heap.size 5 1 (.slice A lg.data.length c) lg.data.length (bys lg.data)) (ho' : wr.ownsRow w.heap.size 5 1 (.slice A' lg.data.length c') lg.data.length (bys lg.data)) :
    LgAt T w (set4 (set4 wr b (.slice A lg.data.length c) (.int .i64 lg.power) (.int .i64 lg.count) (.bool lg.down)) b' (.slice A' lg.data.length c') (.int .i64 lg.power) (.int .i64 lg.count) (.bool lg.down)) b lg ∧
    LgAt T' w (set4 (set4 wr b (.slice A lg.data.length c) (.int .i64 lg.power) (.int .i64 lg.count) (.bool lg.down)) b' (.slice A' lg.data.length c') (.int .i64 lg.power) (.int .i64 lg.count) (.bool lg.down)) b' lg ∧
    Below w.heap.size w (set4 (set4 wr b (.slice A lg.data.length c) (.int .i64 lg.power) (.int .i64 lg.count) (.bool lg.down)) b' (.slice A' lg.data.length c') (.int .i64 lg.power) (.int .i64 lg.count) (.bool lg.down)) :=
  ⟨⟨A, c, row_set4 (at_set4 h _ _ _ _) hne _ _ _ _, own_set4 (own_set4 ho h hT _ _ _ _) (row_set4 h' (Ne.symm hne) _ _ _ _) hT' _ _ _ _⟩,
    ⟨A', c', at_set4 (row_set4 h' (Ne.symm hne) _ _ _ _) _ _ _ _, own_set4 (own_set4 ho' h hT _ _ _ _) (row_set4 h' (Ne.symm hne) _ _ _ _) hT' _ _ _ _⟩,
    below_set4 (below_set4 hB hb _ _ _ _) hb' _ _ _ _⟩

/-- A store in a box, as a call has handed it back. -/
def StAt (T : TypeId) (W0 : World) (r : Sto × Int) (s7 s8 : Value) (wc : World) : Prop :=
  ∃ b A c, s7 = .pointer (some ⟨b, 0, none⟩) ∧ s8 = .int .i64 r.2 ∧ wc.heap[b]? = some (.cells #[.slice A r.1.data.length c, .int .i64 r.1.power] T (0, 0)) ∧ wc.ownsRow W0.heap.size 5 1 (.slice A r.1.data.length c) r.1.data.length (bys r.1.data) ∧ Below W0.heap.size W0 wc
/-- A log in a box, as a call has handed it back. -/
def LbAt (T : TypeId) (W0 : World) (r : Lg × Int) (s7 s8 : Value) (wc : World) : Prop :=
  ∃ b A c, s7 = .pointer (some ⟨b, 0, none⟩) ∧ s8 = .int .i64 r.2 ∧ wc.heap[b]? = some (.cells #[.slice A r.1.data.length c, .int .i64 r.1.power, .int .i64 r.1.count, .bool r.1.down] T (0, 0)) ∧ wc.ownsRow W0.heap.size 5 1 (.slice A r.1.data.length c) r.1.data.length (bys r.1.data) ∧ Below W0.heap.size W0 wc ∧ W0.heap.size ≤ b

theorem restore_size {l : Lg} {p : Int} (h : l.data.length ≤ 1048576) : (restoreR l p).1.data.length ≤ 1048576 := by
  unfold restoreR
  split
  · simp [Sto.zero]
  · exact h
theorem restore_power {l : Lg} {p : Int} (h : p ≤ 9223372036854775807) : (restoreR l p).1.power ≤ 9223372036854775807 := by
  unfold restoreR
  split
  · simp [Sto.zero]
  · exact h
theorem open_size {s : Sto} (h : s.data.length ≤ 1048576) : (openR s).1.data.length ≤ 1048576 := by
  have hc : ∀ k : Int, (cutR s k).1.data.length ≤ 1048576 := fun k => by
    unfold cutR
    split
    · simp [Sto.zero]
    · split
      · simp [Sto.zero]
      · dsimp only
        rw [List.length_take]
        omega
  unfold openR
  split
  · simp [Lg.zero]
  · exact hc _
theorem open_many (s : Sto) : (openR s).2.1.length ≤ 65536 := by
  unfold openR
  split
  · simp
  · exact scan_short _
theorem add_size {l : Lg} {x : Bytes} : (addR l x).1.data.length ≤ 1048576 ∨ (addR l x).1.data.length ≤ 0 := by
  have hw : ∀ y, (wrote l.sto y).data.length ≤ l.data.length + y.length := fun y => by
    unfold wrote Lg.sto
    dsimp only
    rw [List.length_append, List.length_take]
    omega
  unfold addR
  split
  · right; simp [Lg.zero]
  · split
    · right; simp [Lg.zero]
    · split
      · right; simp [Lg.zero]
      · rename_i h
        have h3 := hw (formed (l.count.toNat + 1) x)
        rw [formed_length] at h3
        split
        · left; show (wrote l.sto _).data.length ≤ _; omega
        · left; show (wrote l.sto _).data.length ≤ _; omega
end Go.Proofs.Ytbkicepkkcambaa
