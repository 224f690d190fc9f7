/- The iterator over records. -/
import Derived.Test.YtbkicepkkcambaaJouE
import Derived.Test.YtbkicepkkcambaaRng
import Derived.Shelf.RegionOpen
import Derived.OwnWalkIn
import Derived.TacticsInMore
import Derived.LoopNIn
import Derived.LoopIn
namespace Go.Proofs.Ytbkicepkkcambaa
open Go.RowKit BigFrame Go.Shelf
set_option linter.unusedVariables false
set_option linter.unusedSimpArgs false
attribute [local go_sem] Oper.semAt_some

/-- A record as it is handed over: its payload's slice, and where it ends. -/
structure Item where
  A : Option Addr
  c : Nat
  nxt : Nat
  p : Bytes
def Item.encs (x : Item) : Array Value := #[.slice x.A x.p.length x.c, .int .i64 x.nxt]
def items (A : Option Addr) (c : Nat) : Nat → List Bytes → List Item
  | _, [] => []
  | i, p :: l => ⟨pay A i, c - i - 6, i + (p.length + 10), p⟩ :: items A c (i + (p.length + 10)) l
theorem items_length (A : Option Addr) (c : Nat) : ∀ (i : Nat) (l : List Bytes), (items A c i l).length = l.length
  | _, [] => rfl
  | i, p :: l => by simp [items, items_length A c _ l]
theorem items_get (A : Option Addr) (c : Nat) : ∀ (l : List Bytes) (i j : Nat) (p : Bytes), l[j]? = some p → (items A c i l)[j]? = some ⟨pay A (i + sizes (l.take j)), c - (i + sizes (l.take j)) - 6, i + sizes (l.take j) + (p.length + 10), p⟩
  | [], i, j, p, h => by simp at h
  | q :: l, i, 0, p, h => by
    simp at h
    subst h
    simp [items, sizes]
  | q :: l, i, j + 1, p, h => by
    have := items_get A c l (i + (q.length + 10)) j p (by simpa using h)
    simp only [items, List.getElem?_cons_succ, List.take_succ_cons, sizes_cons]
    rw [this]
    simp [Nat.add_assoc]
/-- What a round keeps: all below B, and the readers. -/
def Kp (B T : Nat) (W W' : World) : Prop := Below B W W' ∧ ∀ (r : Nat) (cs : Array Value) (fr : Nat × Nat), W.heap[r]? = some (Obj.cells cs T fr) → W'.heap[r]? = W.heap[r]?
theorem Kp.trans {B T : Nat} {W1 W2 W3 : World} (h : Kp B T W1 W2) (k : Kp B T W2 W3) : Kp B T W1 W3 :=
  ⟨h.1.trans k.1, fun r cs fr hr => (k.2 r cs fr ((h.2 r cs fr hr).trans hr)).trans (h.2 r cs fr hr)⟩
theorem below_grown {w w' : World} {R B : Nat} (h : w.grownBy w' (some R)) (hB : B ≤ R) (hs : B ≤ w.heap.size) : Below B w w' :=
  ⟨h.os, h.tape, h.output, h.size, fun k hk => h.block k (by omega) (fun e => by cases e; omega)⟩
theorem sizes_take : ∀ (l : List Bytes) (j : Nat), sizes (l.take j) ≤ sizes l
  | [], j => by simp
  | p :: l, 0 => by simp [sizes]
  | p :: l, j + 1 => by
    rw [List.take_succ_cons, sizes_cons, sizes_cons]
    have := sizes_take l j
    omega
theorem sizes_snoc : ∀ (l : List Bytes) (j : Nat) (p : Bytes), l[j]? = some p → sizes (l.take (j + 1)) = sizes (l.take j) + (p.length + 10)
  | [], j, p, h => by simp at h
  | q :: l, 0, p, h => by
    simp at h
    subst h
    simp [sizes]
  | q :: l, j + 1, p, h => by
    have := sizes_snoc l j p (by simpa using h)
    rw [List.take_succ_cons, List.take_succ_cons, sizes_cons, sizes_cons, this]
    omega
/-- What the reader is about to read. -/
theorem next_at {d : Bytes} {j : Nat} (hj : j ≤ (scan d).length) : nextR (d.drop (sizes ((scan d).take j))) (j + 1) = (scan d)[j]? := by
  have go : ∀ (l : List Bytes) (r : Bytes) (k j : Nat), scanAt r k = l → j ≤ l.length → nextR (r.drop (sizes (l.take j))) (k + j) = l[j]? := by
    intro l
    induction l with
    | nil =>
      intro r k j h hj
      obtain rfl : j = 0 := by simpa using hj
      have : nextR r k = none := by
        cases hn : nextR r k with
        | none => rfl
        | some p => rw [scanAt_some hn] at h; cases h
      simpa [sizes] using this
    | cons p l ih =>
      intro r k j h hj
      cases hn : nextR r k with
      | none => rw [scanAt_none hn] at h; cases h
      | some q =>
        rw [scanAt_some hn] at h
        injection h with h1 h2
        subst h1
        cases j with
        | zero => simpa [sizes] using hn
        | succ j =>
          have := ih _ _ j h2 (by simpa using hj)
          rw [List.take_succ_cons, sizes_cons, List.getElem?_cons_succ, ← this, List.drop_drop]
          congr 1
          omega
  have := go (scan d) d 1 j rfl hj
  rwa [Nat.add_comm 1 j] at this
theorem scan_short (d : Bytes) : (scan d).length ≤ 65536 := by
  refine Nat.le_of_not_lt fun h => ?_
  have := next_at (d := d) (j := 65536) (by omega)
  rw [List.getElem?_eq_getElem h] at this
  have := (nextR_some this).1
  omega
theorem scan_room (d : Bytes) (j : Nat) : sizes ((scan d).take j) ≤ d.length := Nat.le_trans (sizes_take _ _) (scanAt_sound (d.length + 1) d 1 (by omega)).2.2.1
def numAt (W : World) (R : Nat) : Nat := match W.cell? ⟨R, 2, none⟩ with | some (.int _ n) => n.toNat | _ => 0
theorem numAt_row {W : World} {R : Nat} {a b : Value} {k T : Nat} {fr : Nat × Nat} (h : W.heap[R]? = some (Obj.cells #[a, b, .int .i64 (k : Int)] T fr)) : numAt W R = k := by
  have := cell_of_row W R 2 _ _ _ h
  simp [numAt, this]
/-- What is left to be read. -/
def leftOf (L R : Nat) (v : Value) (W : World) : Nat := match v with | .bool true => L + 3 - numAt W R | _ => 0
/-- Where the reader stands when i records have been handed over, and next has been asked. -/
def Stands (A : Option Addr) (n c : Nat) (d : Bytes) (R T i : Nat) (s4 s5 : Value) (wr : World) : Prop :=
  (∃ p, (scan d)[i]? = some p ∧ s4 = .slice (pay A (sizes ((scan d).take i))) p.length (c - sizes ((scan d).take i) - 6) ∧ s5 = .bool true ∧
    wr.heap[R]? = some (.cells #[.slice A n c, .int .i64 ((sizes ((scan d).take i) + (p.length + 10) : Nat) : Int), .int .i64 ((i + 1 + 1 : Nat) : Int)] T (0, 0))) ∨
  (i = (scan d).length ∧ s4 = .slice none 0 0 ∧ s5 = .bool false)
/-- What next has left. -/
theorem stands_next {A : Option Addr} {n c : Nat} {d : Bytes} {R i B0 : Nat} {J : List Item → World → Prop} {s : List Item} {w w' W : World} {e : Ending} (hi : i ≤ (scan d).length) (hJ : AbidesT 85 R J) (hB0 : B0 ≤ R)
    (hr : w.heap[R]? = some (.cells #[.slice A n c, .int .i64 ((sizes ((scan d).take i) : Nat) : Int), .int .i64 ((i + 1 : Nat) : Int)] 85 (0, 0)))
    (hs : J s w) (hb : Below B0 W w) (h : NextPost R A n c d (sizes ((scan d).take i)) (i + 1) w e w') :
    ∃ s4 s5, e = .returned (.tuple #[s4, s5]) ∧ Stands A n c d R 85 i s4 s5 w' ∧ J s w' ∧ Below B0 W w' := by
  have hR := row_lt hr
  unfold NextPost at h
  rw [next_at hi] at h
  cases hx : (scan d)[i]? with
  | none =>
    rw [hx] at h
    obtain ⟨rfl, hb'⟩ := h
    have : i = (scan d).length := by
      have := List.getElem?_eq_none_iff.1 hx
      omega
    exact ⟨_, _, rfl, .inr ⟨this, rfl, rfl⟩, hJ _ _ _ none hs (grown_of_below hb') (by simp), hb.trans (hb'.mono (by omega))⟩
  | some p =>
    rw [hx] at h
    obtain ⟨⟨rfl, _⟩, hg, hr'⟩ := h
    refine ⟨_, _, rfl, .inl ⟨p, hx, rfl, rfl, hr'⟩, hJ _ _ _ _ hs hg fun r e => ?_, hb.trans (below_grown hg hB0 (by omega))⟩
    injection e with e
    subst e
    exact ⟨Nat.le_refl _, _, hr, .inr ⟨_, _, rfl⟩⟩

set_option maxRecDepth 100000 in
set_option maxHeartbeats 4000000 in
theorem records_iter (m : Nat) (hm : 1 ≤ m) (B0 Bd : Nat) (A : Option Addr) (n c : Nat) (d : Bytes) (w : World) (hB0 : B0 ≤ w.heap.size) (hBd : Bd < w.heap.size) (hb : w.cell? ⟨Bd, 0, none⟩ = some (.slice A n c)) (hd : Bys w B0 A n d) (hn : n ≤ 100000000000) (hc : n ≤ c) (hc63 : c ≤ 9223372036854775807) :
    IterT Fence.wide m Try.prog 44 #[.pointer (some ⟨Bd, 0, none⟩)] Item.encs (Kp B0 85) 85 (items A c 0 (scan d)) w := by
  intro l J W hW hJ hY h0
  have hbW := (hW.cell (p := ⟨Bd, 0, none⟩) hBd).trans hb
  have hWs := hW.size
  have hdW := hd.later hB0 hW
  have hlen := hd.len
  have hroom := scan_room d
  have hshort := scan_short d
  rw [hlen] at hroom
  have HN : ∀ (i : Nat) (w1 : World), i ≤ (scan d).length → Below B0 W w1 → w1.heap[W.heap.size]? = some (.cells #[.slice A n c, .int .i64 ((sizes ((scan d).take i) : Nat) : Int), .int .i64 ((i + 1 : Nat) : Int)] 85 (0, 0)) → Calls Try.prog 45 #[.pointer (some ⟨W.heap.size, 0, none⟩)] w1 (NextPost W.heap.size A n c d (sizes ((scan d).take i)) (i + 1) w1) :=
    fun i w1 hi h1 h2 => next_any W.heap.size A n c d _ (i + 1) w1 h2 ((hdW.later (Nat.le_refl _) h1).more (by omega)) hn hc hc63 (hroom i) (by omega) (by omega)
  have HN' := Lib.hid HN
  clear HN
  have HY := Lib.hid hY
  clear hY
  refine callsIn_of_wp Try.func44 rfl trivial ?_ rfl
  simp only [Try.ntmps44, List.size_toArray, List.length_cons, List.length_nil, Nat.reduceAdd, Nat.reduceSub, Array.replicate_succ, Array.replicate_zero, List.push_toArray, List.append_toArray, List.nil_append, List.cons_append]
  gi_wp2_with fail
  refine ⟨trivial, ?_⟩
  have hr0 := World.alloc_heap_new W (.cells #[.slice A n c, .int .i64 0, .int .i64 1] 85)
  have hb0 : Below B0 W (W.alloc (.cells #[.slice A n c, .int .i64 0, .int .i64 1] 85)) := (Below.refl _ _).alloc (by omega) _
  have hJ0 : J [] (W.alloc (.cells #[.slice A n c, .int .i64 0, .int .i64 1] 85)) := hJ _ _ _ none h0 (World.grownBy_alloc W _ none) (by simp)
  refine (callsIn_wide.2 (HN'.out 0 _ (Nat.zero_le _) hb0 hr0)).mono ?_
  intro e w1 hp
  obtain ⟨s4, s5, rfl, hst, hj, hbw⟩ := stands_next (Nat.zero_le _) hJ (by omega) hr0 hJ0 hb0 hp
  clear hp hr0 hb0 hJ0
  gi_wp2_with fail
  gi_loopw [4, 5] (fun s4 s5 wr => ∃ i : Nat, i ≤ (scan d).length ∧ J ((items A c 0 (scan d)).take i) wr ∧ Below B0 W wr ∧ Stands A n c d W.heap.size 85 i s4 s5 wr) (fun _ v wr => leftOf (scan d).length W.heap.size v wr)
  case atStart => exact ⟨0, Nat.zero_le _, by simpa using hj, hbw, hst⟩
  case round =>
    obtain ⟨i, hi, hj, hbw, hst⟩ := hrel
    rcases hst with ⟨p, hp, rfl, rfl, hr⟩ | ⟨rfl, rfl, rfl⟩
    · have hlt : i < (scan d).length := (List.getElem?_eq_some_iff.1 hp).1
      have hx : (items A c 0 (scan d))[i]? = some ⟨pay A (sizes ((scan d).take i)), c - sizes ((scan d).take i) - 6, sizes ((scan d).take i) + (p.length + 10), p⟩ := by
        have := items_get A c _ 0 _ _ hp
        simpa using this
      have htk := List.take_add_one (l := items A c 0 (scan d)) (i := i)
      rw [hx] at htk
      simp only [Option.toList_some] at htk
      have hsn := sizes_snoc _ _ _ hp
      have f1 : wr.cell? ⟨W.heap.size, 1, none⟩ = some (.int .i64 ((sizes ((scan d).take i) + (p.length + 10) : Nat) : Int)) := cell_of_row _ _ 1 _ _ _ hr
      have hnum := numAt_row hr
      obtain ⟨fn, tmps, assign, body, hy, hR⟩ := HY.out _ _ wr (by rw [← htk]; exact List.take_prefix _ _) hj
      simp only [Item.encs, Int.natCast_add, Int.cast_ofNat_Int] at hy
      have HR := Lib.hid hr
      have HT := Lib.hid htk
      have HS := Lib.hid hsn
      have HP := Lib.hid hp
      clear hr htk hsn hx hp
      gi_wp2_with fail
      refine hR.mono ?_
      rintro e w2 ⟨rfl, hj2, hk2⟩
      have hr2 : w2.heap[W.heap.size]? = some (.cells #[.slice A n c, .int .i64 ((sizes ((scan d).take (i + 1)) : Nat) : Int), .int .i64 ((i + 1 + 1 : Nat) : Int)] 85 (0, 0)) := by
        rw [HS.out]; exact (hk2.2 _ _ _ HR.out).trans HR.out
      rw [← HT.out] at hj2
      have hb2 := hbw.trans hk2.1
      have HN2 := Lib.hid (HN'.out (i + 1) _ (by omega) hb2 hr2)
      have HR2 := Lib.hid hr2
      clear hr2 hy hR hk2
      gi_wp2_with fail
      refine ⟨trivial, ?_⟩
      refine (callsIn_wide.2 HN2.out).mono ?_
      intro e w3 hp
      obtain ⟨s4', s5', rfl, hst', hj', hbw'⟩ := stands_next (by omega) hJ (by omega) HR2.out hj2 hb2 hp
      clear hp
      gi_wp2_with fail
      refine ⟨⟨i + 1, by omega, hj', hbw', hst'⟩, ?_⟩
      have h1 : leftOf (scan d).length W.heap.size (.bool true) wr = (scan d).length + 3 - (i + 1 + 1) := by unfold leftOf; rw [hnum]
      rw [h1]
      rcases hst' with ⟨p', _, _, rfl, hr'⟩ | ⟨_, _, rfl⟩
      · have := numAt_row hr'
        show (scan d).length + 3 - numAt w3 W.heap.size < _
        rw [this]
        omega
      · show 0 < _
        omega
    · gi_wp2_with fail
      go_end0
      exact ⟨⟨_, rfl⟩, by rwa [List.take_of_length_le (by rw [items_length]; exact Nat.le_refl _)] at hj⟩

/-- records: the closure over a box of its own. -/
theorem records_any (A : Option Addr) (n c : Nat) (w : World) :
    Calls Try.prog 38 #[.slice A n c] w fun e w' => e = .returned (.func (.func 44) #[] #[.pointer (some ⟨w.heap.size, 0, none⟩)]) ∧ w' = w.alloc (.cells #[.slice A n c] 25) := by
  go_enter Try.func38, Try.ntmps38
  go_wp2_with fail
  go_ret
  exact ⟨rfl, rfl⟩
end Go.Proofs.Ytbkicepkkcambaa
