/- JournalTorn: what its loops keep. -/
import Derived.Test.YtbkicepkkcambaaJouRead
import Derived.Test.YtbkicepkkcambaaJouA
import Derived.Deep.Cut
namespace Go.Proofs.Ytbkicepkkcambaa
open Go.RowKit BigFrame Go.Shelf
set_option linter.unusedVariables false
set_option linter.unusedSimpArgs false

/-- The payloads that were kept: a row of the call's own, of slices that came in. -/
def KeptAt (w wr : World) (v : Value) (K : List Bytes) : Prop := ∃ A c vs, v = .slice A K.length c ∧ wr.ownsRow w.heap.size 25 1 (.slice A K.length c) K.length vs ∧ Rws w w.heap.size vs K
/-- A log in its box, its data a row of the call's own. -/
def LogAt (w wr : World) (b : Nat) (lg : Lg) : Prop := ∃ A c, wr.heap[b]? = some (.cells #[.slice A lg.data.length c, .int .i64 lg.power, .int .i64 lg.count, .bool lg.down] 29 (0, 0)) ∧ wr.ownsRow w.heap.size 5 1 (.slice A lg.data.length c) lg.data.length (bys lg.data)
theorem KeptAt.later {w wr wr' : World} {v : Value} {K : List Bytes} (h : KeptAt w wr v K) (hb : Below wr.heap.size wr wr') : KeptAt w wr' v K := by
  obtain ⟨A, c, vs, h1, h2, h3⟩ := h
  exact ⟨A, c, vs, h1, own_kept h2 hb (Nat.le_refl _), h3⟩
theorem LogAt.later {w wr wr' : World} {b : Nat} {lg : Lg} (h : LogAt w wr b lg) (hb : Below wr.heap.size wr wr') : LogAt w wr' b lg := by
  obtain ⟨A, c, h1, h2⟩ := h
  exact ⟨A, c, (hb.block b (row_lt h1)).trans h1, own_kept h2 hb (Nat.le_refl _)⟩
theorem KeptAt.set {w wr : World} {v : Value} {K : List Bytes} (h : KeptAt w wr v K) {b k : Nat} {cs : Array Value} {T : TypeId} {fr : Nat × Nat} (hr : wr.heap[b]? = some (.cells cs T fr)) (hT : 25 ≠ T) (u : Value) : KeptAt w (wr.setCell ⟨b, k, none⟩ u) v K := by
  obtain ⟨A, c, vs, h1, h2, h3⟩ := h
  exact ⟨A, c, vs, h1, own_set h2 (fun q hq e => row_ne hr h2 hT (hq.trans (congrArg some e))) u, h3⟩
/-- The payloads can be read. -/
theorem KeptAt.tx {w wr : World} {v : Value} {K : List Bytes} (h : KeptAt w wr v K) (hb : Below w.heap.size w wr) : ∃ A c, v = .slice A K.length c ∧ K.length ≤ c ∧ c ≤ 9223372036854775807 ∧ Tx wr wr.heap.size A K.length K := by
  obtain ⟨A, c, vs, h1, h2, h3⟩ := h
  exact ⟨A, c, h1, (own_cap h2).1, (own_cap h2).2, rfl, vs, Reads.of_own h2, h3.map fun _ _ _ hy => hy.to hb⟩
theorem LogAt.data {w wr : World} {b : Nat} {lg : Lg} (h : LogAt w wr b lg) : ∃ A c, wr.heap[b]? = some (.cells #[.slice A lg.data.length c, .int .i64 lg.power, .int .i64 lg.count, .bool lg.down] 29 (0, 0)) ∧ lg.data.length ≤ c ∧ c ≤ 9223372036854775807 ∧ Bys wr wr.heap.size A lg.data.length lg.data := by
  obtain ⟨A, c, h1, h2⟩ := h
  exact ⟨A, c, h1, (own_cap h2).1, (own_cap h2).2, Bys.of_own h2⟩
/-- The world behind 'l = n'. -/
def set4 (wr : World) (b : Nat) (v0 v1 v2 v3 : Value) : World := (((wr.setCell ⟨b, 0, none⟩ v0).setCell ⟨b, 1, none⟩ v1).setCell ⟨b, 2, none⟩ v2).setCell ⟨b, 3, none⟩ v3
theorem store_log {w wr : World} {v : Value} {K : List Bytes} {b c : Nat} {A : Option Addr} {lg : Lg} {u0 u1 u2 u3 : Value} (hk : KeptAt w wr v K) (hr : wr.heap[b]? = some (.cells #[u0, u1, u2, u3] 29 (0, 0))) (ho : wr.ownsRow w.heap.size 5 1 (.slice A lg.data.length c) lg.data.length (bys lg.data)) (hB : Below w.heap.size w wr) (hb : w.heap.size ≤ b) :
    KeptAt w (set4 wr b (.slice A lg.data.length c) (.int .i64 lg.power) (.int .i64 lg.count) (.bool lg.down)) v K ∧ LogAt w (set4 wr b (.slice A lg.data.length c) (.int .i64 lg.power) (.int .i64 lg.count) (.bool lg.down)) b lg ∧ Below w.heap.size w (set4 wr b (.slice A lg.data.length c) (.int .i64 lg.power) (.int .i64 lg.count) (.bool lg.down)) := by
  unfold set4
  have r1 := set_row (k := 0) hr (.slice A lg.data.length c)
  have r2 := set_row (k := 1) r1 (.int .i64 lg.power)
  have r3 := set_row (k := 2) r2 (.int .i64 lg.count)
  have r4 := set_row (k := 3) r3 (.bool lg.down)
  have n0 : ∀ q, (Value.slice A lg.data.length c).ownBlock = some q → q ≠ b := fun q hq e => row_ne hr ho (by decide) (hq.trans (congrArg some e))
  refine ⟨(((hk.set hr (by decide) _).set r1 (by decide) _).set r2 (by decide) _).set r3 (by decide) _, ⟨A, c, r4, own_set (own_set (own_set (own_set ho ?_ _) ?_ _) ?_ _) ?_ _⟩, (((hB.setCell ?_ _).setCell ?_ _).setCell ?_ _).setCell ?_ _⟩
  all_goals first | exact n0 | exact hb
/-- A payload is kept. -/
theorem KeptAt.snoc {w w' : World} {A' A1 : Option Addr} {K : List Bytes} {x : Bytes} {c' c1 : Nat} {vs : List Value} (h3 : Rws w w.heap.size vs K) (ho : w'.ownsRow w.heap.size 25 1 (.slice A' (K.length + 1) c') (K.length + 1) (vs ++ [.slice A1 x.length c1])) (h1 : x.length ≤ c1) (h2 : c1 ≤ 9223372036854775807) (hx : Bys w w.heap.size A1 x.length x) :
    KeptAt w w' (.slice A' (K.length + 1) c') (K ++ [x]) := by
  refine ⟨A', c', vs ++ [.slice A1 x.length c1], by simp, ?_, Rws.snoc ⟨A1, c1, rfl, h1, h2, hx⟩ h3⟩
  simpa using ho
theorem LogAt.grown {w wr w' : World} {b : Nat} {lg : Lg} {A : Option Addr} {m c : Nat} {vs : List Value} (h : LogAt w wr b lg) (hk : wr.ownsRow w.heap.size 25 1 (.slice A m c) m vs) (hg : wr.grownBy w' (Value.slice A m c).ownBlock) : LogAt w w' b lg := by
  obtain ⟨A1, c1, h1, h2⟩ := h
  exact ⟨A1, c1, (hg.block b (row_lt h1) fun e => row_ne h1 hk (by decide) e.symm).trans h1, own_grown h2 hg fun q hq => own_ne h2 hk (by decide) hq⟩
theorem LogAt.alloc {w wr : World} {b : Nat} {lg : Lg} (h : LogAt w wr b lg) (o : Obj) : LogAt w (wr.alloc o) b lg := h.later ((Below.refl _ _).alloc (Nat.le_refl _) _)

theorem cutR_holds {l : Lg} {K : List Bytes} (h : Holds l K) (power : Int) : (power < -1 ∧ restoreR l power = (Sto.zero, 2)) ∨ (-1 ≤ power ∧ restoreR l power = (⟨l.data, power⟩, 0) ∧ ((∃ m, openR ⟨l.data, power⟩ = (m, K, 0) ∧ Holds m K ∧ m.down = false ∧ m.count = K.length) ∨ (openR ⟨l.data, power⟩ = (Lg.zero, [], 370) ∧ power = 0 ∧ l.down = true))) := by
  by_cases hp : power < -1
  · left
    exact ⟨hp, by unfold restoreR; rw [if_pos (.inr hp)]⟩
  · right
    obtain ⟨h1, h2⟩ := h.opened (power := power) (by omega)
    exact ⟨by omega, h1, h2⟩
theorem open_power {s : Sto} {M : Int} (h : s.power ≤ M) (hM : 0 ≤ M) : (openR s).1.power ≤ M := by
  have hc : ∀ k : Int, (cutR s k).1.power ≤ M := fun k => by
    unfold cutR
    split
    · exact hM
    · split
      · exact hM
      · dsimp only
        split <;> omega
  unfold openR
  split
  · exact hM
  · exact hc _
theorem wrote_power {s : Sto} {x : Bytes} {M : Int} (h : s.power ≤ M) : (wrote s x).power ≤ M := by
  unfold wrote
  dsimp only
  split <;> omega
theorem add_power {l : Lg} {x : Bytes} {M : Int} (h : l.power ≤ M) (hM : 0 ≤ M) : (addR l x).1.power ≤ M := by
  have hw : ∀ y, (wrote l.sto y).power ≤ M := fun y => wrote_power h
  unfold addR
  split
  · exact hM
  · split
    · exact hM
    · split
      · exact hM
      · split
        · exact hw _
        · exact hw _
theorem sizes_kept : ∀ {K : List Bytes}, (∀ x ∈ K, x.length ≤ 300) → sizes K ≤ K.length * 310
  | [], _ => by simp [sizes]
  | p :: l, h => by
    have := sizes_kept (K := l) fun x hx => h x (by simp [hx])
    have := h p (by simp)
    rw [sizes_cons, List.length_cons]
    omega
end Go.Proofs.Ytbkicepkkcambaa
