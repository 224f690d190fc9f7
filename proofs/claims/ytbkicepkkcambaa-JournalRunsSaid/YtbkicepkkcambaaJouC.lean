/- The bytes of a record: the closure that puts a number, and formed. -/
import Derived.Test.YtbkicepkkcambaaJouB
namespace Go.Proofs.Ytbkicepkkcambaa
open Go.RowKit BigFrame
set_option linter.unusedVariables false
set_option linter.unusedSimpArgs false

theorem heap_at {w : World} {o : Obj} {b : Nat} (hb : b = w.heap.size) : (w.alloc o).heap[b]? = some o := by subst hb; exact heap_alloc_new _ _
theorem reads_block {w : World} {b B size n : Nat} {cs : Array Value} {t : TypeId} {fr : Nat × Nat} {xs : List Value} (hb : b < B) (hh : w.heap[b]? = some (.cells cs t fr)) (hx : cs.toList = xs) (hl : xs.length = n * size) : Reads w B size (some ⟨b, 0, none⟩) n xs :=
  ⟨hl, fun _ => ⟨b, 0, rfl, hb, fun j u hu => by
    rw [Nat.zero_add, cell_of_row w b j cs t fr hh, ← hu, ← hx, Array.getElem?_toList]⟩⟩
theorem row_lt {w : World} {b : Nat} {o : Obj} (h : w.heap[b]? = some o) : b < w.heap.size := (Array.getElem?_eq_some_iff.1 h).1
theorem set_row {w : World} {b k : Nat} {cs : Array Value} {t : TypeId} {fr : Nat × Nat} (h : w.heap[b]? = some (.cells cs t fr)) (u : Value) : (w.setCell ⟨b, k, none⟩ u).heap[b]? = some (.cells (cs.setIfInBounds k u) t fr) := by
  simp [World.setCell, Array.getElem?_modify, h]
theorem far_row {w : World} {b : Nat} {x : Option Obj} (h : w.heap[b]? = x) {p : Addr} (hp : b ≠ p.block) (u : Value) : (w.setCell p u).heap[b]? = x := (Below.heap_setCell w p u b hp).trans h

theorem le_snoc : ∀ (k n : Nat), le n (k + 1) = le n k ++ [UInt8.ofNat (n / 256 ^ k)]
  | 0, n => by simp [le]
  | k + 1, n => by
    rw [le, le_snoc k (n / 256), Nat.div_div_eq_div_mul, show 256 * 256 ^ k = 256 ^ (k + 1) by rw [Nat.pow_succ, Nat.mul_comm]]
    rfl

/-- A box that holds a row of the call's own: the bytes l. -/
def OutBox (w : World) (base b : Nat) (l : Bytes) : Prop := ∃ A c, w.heap[b]? = some (.cells #[.slice A l.length c] 25 (0, 0)) ∧ w.ownsRow base 5 1 (.slice A l.length c) l.length (bys l)
theorem box_ne {w : World} {base b n c : Nat} {l : Bytes} {A : Option Addr} {cs : Array Value} {fr : Nat × Nat} (h : w.heap[b]? = some (.cells cs 25 fr)) (ho : w.ownsRow base 5 1 (.slice A n c) n (bys l)) : (Value.slice A n c).ownBlock ≠ some b := by
  intro e
  rcases ho.2 with ⟨h2, _⟩ | ⟨g, cap, cur, hv, _, hh, _⟩
  · rw [h2] at e; simp [Value.ownBlock] at e
  · rw [hv] at e
    have : g = b := by simpa [Value.ownBlock] using e
    subst this
    rw [h] at hh
    injection hh with hh
    injection hh with _ ht
    exact absurd ht (by decide)
theorem box_kept {w w' : World} {base b n c : Nat} {l : Bytes} {A : Option Addr} {cs : Array Value} {fr : Nat × Nat} {o : Obj} (h : w.heap[b]? = some (.cells cs 25 fr)) (ho : w.ownsRow base 5 1 (.slice A n c) n (bys l)) (hg : (w.alloc o).grownBy w' (Value.slice A n c).ownBlock) :
    w'.heap[b]? = some (.cells cs 25 fr) := (hg.block b (by have := row_lt h; simp; omega) (fun e => box_ne h ho e.symm)).trans ((Below.heap_alloc _ _ _ (row_lt h)).trans h)
theorem box_kept0 {w w' : World} {base b n c : Nat} {l : Bytes} {A : Option Addr} {cs : Array Value} {fr : Nat × Nat} (h : w.heap[b]? = some (.cells cs 25 fr)) (ho : w.ownsRow base 5 1 (.slice A n c) n (bys l)) (hg : w.grownBy w' (Value.slice A n c).ownBlock) :
    w'.heap[b]? = some (.cells cs 25 fr) := (hg.block b (row_lt h) (fun e => box_ne h ho e.symm)).trans h
/-- What was appended is put into the box. -/
theorem OutBox.put {w : World} {base b : Nat} {l m : Bytes} {A' : Option Addr} {c' : Nat} {v : Value} (h : w.heap[b]? = some (.cells #[v] 25 (0, 0)))
    (ho : w.ownsRow base 5 1 (.slice A' (l.length + m.length) c') (l.length + m.length) (bys l ++ bys m)) : OutBox (w.setCell ⟨b, 0, none⟩ (.slice A' (l.length + m.length) c')) base b (l ++ m) := by
  refine ⟨A', c', ?_, ?_⟩
  · rw [List.length_append]; exact set_row h _
  · rw [List.length_append, bys_append]
    rw [← bys_append] at ho ⊢
    exact own_set ho (fun k hk e => box_ne h ho (by rw [hk, e])) _
theorem bys_nat (q : Nat) : bys [UInt8.ofNat q] = [.int .u8 ((q : Int) % 256)] := by simp [bys]

set_option maxRecDepth 100000 in
set_option maxHeartbeats 1000000 in
theorem put_any (B base b : Nat) (l : Bytes) (n k : Nat) (w : World) (h : OutBox w base b l) (hB : B ≤ b) (hB' : B ≤ base) (hbase : base ≤ w.heap.size) (hn : n < 4294967296) (hk : k ≤ 8) (hl : l.length ≤ 1000000) :
    Calls Try.prog 42 #[.int .u32 n, .int .i64 k, .pointer (some ⟨b, 0, none⟩)] w fun e w' => (∃ v, e = .returned v) ∧ OutBox w' base b (l ++ le n k) ∧ Below B w w' := by
  go_enter Try.func42, Try.ntmps42
  go_wp2
  go_loopw [0, 6] (fun t i wr => ∃ j : Nat, j ≤ k ∧ i = .int .i64 j ∧ t = .int .u32 ((n / 256 ^ j : Nat) : Int) ∧ OutBox wr base b (l ++ le n j) ∧ Below B w wr ∧ w.heap.size ≤ wr.heap.size) (fun _ i _ => k - (intOf i).toNat)
  case atStart => exact ⟨0, Nat.zero_le _, rfl, by simp, by simpa [le] using h, Below.refl _ _, Nat.le_refl _⟩
  case round =>
    obtain ⟨j, hj, rfl, rfl, ⟨A, c, hx, ho⟩, hb, hs⟩ := hrel
    have hd : n / 256 ^ j < 4294967296 := Nat.lt_of_le_of_lt (Nat.div_le_self _ _) hn
    have hd2 : n / 256 ^ (j + 1) = n / 256 ^ j / 256 := by rw [Nat.pow_succ, Nat.div_div_eq_div_mul]
    have hsn := le_snoc j n
    have c0 : wr.cell? ⟨b, 0, none⟩ = some (.slice A (l ++ le n j).length c) := cell_of_row _ _ 0 _ _ _ hx
    have f0 := frozen_of_row _ _ 0 _ _ hx
    have bl := row_lt hx
    have HL : (l ++ le n j).length ≤ 1000008 := by rw [List.length_append, le_length]; omega
    have HX := Lib.hid hx
    have HD := Lib.hid hd2
    have HS := Lib.hid hsn
    have Hb := Lib.hid hb
    have hle : ∀ q : Bytes, l ++ (le n j ++ q) = (l ++ le n j) ++ q := fun q => (List.append_assoc _ _ _).symm
    have HLE := Lib.hid hle
    generalize n / 256 ^ j = q at *
    generalize hm : l ++ le n j = m at *
    have HM := Lib.hid hm
    by_cases hlt : j < k
    · clear hx hd2 hsn hb h hle hm
      go_wp2_with (at_builtin; go_must (refine elemByte.list_append rfl (.tmp 8) (.tmp 11) rfl rfl (ho.alloc _) rfl (reads_block (b := wr.heap.size) (n := 1) (B := wr.heap.size + 1) (xs := bys [UInt8.ofNat q]) (by omega) (heap_at rfl) (by rw [bys_nat]) rfl) (bys_one _) (by unfold maxLen; omega) (by omega) (by simp; omega) ?_; intro v' w' hown' hg hat; obtain ⟨A', c', hv', _⟩ := own_shape hown'; subst hv'; have hx' := box_kept HX.out ho hg; have c0' := cell_of_row _ _ 0 _ _ _ hx'; have f0' := frozen_of_row _ _ 0 _ _ hx'; simp at c0'))
      change (wr.alloc _).grownBy w' (Value.slice A m.length c).ownBlock at hg
      have hW : Below B w w' := by
        have h0 := Hb.out
        exact Below.grown (by go_grown : Below B w (wr.alloc _)) hg (by simp; omega) (fun k hk => by have := (ho.lt k hk).1; omega)
      have hsz : wr.heap.size ≤ w'.heap.size := by have := hg.size; simp at this; omega
      go_roundw
      case rel =>
        refine ⟨j + 1, by omega, by go_num, by rw [HD.out]; rfl, ?_, hW.setCell hB _, by simp; omega⟩
        rw [HS.out, HLE.out]
        exact OutBox.put hx' hown'
      case measure => simp [intOf]; omega
    · obtain rfl : j = k := by omega
      clear hx hd2 hsn h hle hm
      go_wp2
      go_end0
      rw [HM.out]
      exact ⟨⟨_, rfl⟩, ⟨A, c, HX.out, ho⟩, hb⟩
theorem csum_take {h : Bytes} {j : Nat} {x : UInt8} (hx : h[j]? = some x) : csum 0 (h.take (j + 1)) = csum 0 (h.take j) + (j + 1) * x.toNat := by
  have hj := (List.getElem?_eq_some_iff.1 hx).1
  rw [List.take_add_one, hx, csum_append]
  simp only [Option.toList_some, csum, List.length_take]
  rw [show min j h.length = j by omega, show 0 + j + 1 = j + 1 by omega]
  omega
theorem outbox_start (w : World) : OutBox (w.alloc (.cells #[.slice none 0 0] 25)) w.heap.size w.heap.size [] := ⟨none, 0, heap_at rfl, World.ownsRow_nil _ _ _ _⟩

end Go.Proofs.Ytbkicepkkcambaa
