/- Copies of slices; a ledger of the call's own. -/
import Derived.Test.YtmaojcjnpblffaaLedF
namespace Go.Proofs.Ytmaojcjnpblffaa
open Go.RowKit BigFrame

theorem elemInt : ElemT Try.prog 22 3 (.int .i64 0) 1 8 := ⟨Try.underlying22, by kernel_rfl, rfl, by omega⟩
theorem elemPaid : ElemT Try.prog 23 47 (.agg #[.int .i64 0, .int .i64 0, .int .u8 0, .int .i64 0]) 4 32 := ⟨Try.underlying23, by kernel_rfl, rfl, by omega⟩

theorem ints_one (l : List Int) : ∀ u ∈ ints l, u.oneCell' = true := by
  intro u hu
  simp only [ints, List.mem_map] at hu
  obtain ⟨x, _, rfl⟩ := hu
  rfl
theorem paids_one : ∀ (l : List Paid), ∀ u ∈ paids l, u.oneCell' = true
  | [], u, h => by cases h
  | p :: l, u, h => by
    simp only [paids, List.mem_cons] at h
    rcases h with rfl | rfl | rfl | rfl | h
    · rfl
    · rfl
    · rfl
    · rfl
    · exact paids_one l u h

/-- A call that hands back a slice of n elements with the cells xs, in memory of its own. -/
def GivesRow (w : World) (E : TypeId) (size n : Nat) (xs : List Value) (e : Ending) (w' : World) : Prop :=
  ∃ A c, e = .returned (.slice A n c) ∧ w'.ownsRow w.heap.size E size (.slice A n c) n xs ∧ Below w.heap.size w w'

set_option maxHeartbeats 400000 in
theorem clone_paid (A : Option Addr) (n c : Nat) (l : List Paid) (w : World) (hr : Posts w w.heap.size A n l) (hn : n ≤ 4000000000) :
    Calls Try.prog 46 #[.slice A n c] w (GivesRow w 47 4 n (paids l)) := by
  have hq := fun A (w : World) => Lib.run_eql_slice_nil (P := Try.prog) w 23 47 A n c 0 0 Try.underlying23
  have hrr := Lib.hid hr
  clear hr
  cases A with
  | none =>
    go_enter Try.func46, Try.ntmps46
    go_wp2
    go_ret
    have hn0 : n = 0 := by
      by_cases h : n = 0
      · exact h
      · obtain ⟨_, _, h', _⟩ := hrr.out.reads.2 (by omega)
        cases h'
    subst hn0
    have hl : l = [] := List.eq_nil_of_length_eq_zero hrr.out.len
    subst hl
    exact ⟨none, 0, rfl, World.ownsRow_nil _ _ _ _, Below.refl _ _⟩
  | some ad =>
    go_enter Try.func46, Try.ntmps46
    go_wp2_with (at_builtin; refine elemPaid.list_append rfl (.tmp 5) (.tmp 6) rfl rfl (World.ownsRow_lit (base := w.heap.size) (e := 47) (size := 4) w #[] 0 (Nat.le_refl _) (by unfold maxLen; omega) rfl) rfl (hrr.out.reads.alloc (Nat.le_refl _) _) (paids_one l) (by unfold maxLen; omega) (by omega) (by simp) ?_; intro v' w' hown hg hat)
    go_ret
    simp only [Nat.zero_add, List.nil_append] at hown
    obtain ⟨A1, c1, rfl, _⟩ := own_shape hown
    exact ⟨A1, c1, rfl, hown, (((Below.refl _ _).alloc (Nat.le_refl _) _).grown hg (by simp) (fun k hk => by cases hk; exact Nat.le_refl _))⟩

set_option maxHeartbeats 400000 in
theorem clone_int (A : Option Addr) (n c : Nat) (l : List Int) (w : World) (hr : Ints w w.heap.size A n l) (hn : n ≤ 4000000000) :
    Calls Try.prog 45 #[.slice A n c] w (GivesRow w 3 1 n (ints l)) := by
  have hq := fun A (w : World) => Lib.run_eql_slice_nil (P := Try.prog) w 22 3 A n c 0 0 Try.underlying22
  have hrr := Lib.hid hr
  clear hr
  cases A with
  | none =>
    go_enter Try.func45, Try.ntmps45
    go_wp2
    go_ret
    have hn0 : n = 0 := by
      by_cases h : n = 0
      · exact h
      · obtain ⟨_, _, h', _⟩ := hrr.out.reads.2 (by omega)
        cases h'
    subst hn0
    have hl : l = [] := List.eq_nil_of_length_eq_zero hrr.out.len
    subst hl
    exact ⟨none, 0, rfl, World.ownsRow_nil _ _ _ _, Below.refl _ _⟩
  | some ad =>
    go_enter Try.func45, Try.ntmps45
    go_wp2_with (at_builtin; refine elemInt.list_append rfl (.tmp 5) (.tmp 6) rfl rfl (World.ownsRow_lit (base := w.heap.size) (e := 3) (size := 1) w #[] 0 (Nat.le_refl _) (by unfold maxLen; omega) rfl) rfl (hrr.out.reads.alloc (Nat.le_refl _) _) (ints_one l) (by unfold maxLen; omega) (by omega) (by simp) ?_; intro v' w' hown hg hat)
    go_ret
    simp only [Nat.zero_add, List.nil_append] at hown
    obtain ⟨A1, c1, rfl, _⟩ := own_shape hown
    exact ⟨A1, c1, rfl, hown, (((Below.refl _ _).alloc (Nat.le_refl _) _).grown hg (by simp) (fun k hk => by cases hk; exact Nat.le_refl _))⟩

/-- A ledger value whose slices are memory of the call's own, from block base on. -/
structure OwnLed (w : World) (base : Nat) (A : Option Addr) (c : Nat) (A' : Option Addr) (c' : Nat) (L : Led) : Prop where
  due : w.ownsRow base 3 1 (.slice A L.due.length c) L.due.length (ints L.due)
  posts : w.ownsRow base 47 4 (.slice A' L.posts.length c') L.posts.length (paids L.posts)
theorem OwnLed.kept {w w' : World} {base B c c' : Nat} {A A' : Option Addr} {L : Led} (h : OwnLed w base A c A' c' L) (hb : Below B w w') (hB : w.heap.size ≤ B) : OwnLed w' base A c A' c' L :=
  ⟨own_kept h.due hb hB, own_kept h.posts hb hB⟩
theorem OwnLed.more {w : World} {base base' c c' : Nat} {A A' : Option Addr} {L : Led} (h : OwnLed w base A c A' c' L) (hb : base' ≤ base) : OwnLed w base' A c A' c' L := ⟨own_more h.due hb, own_more h.posts hb⟩
def Led.v (L : Led) (A : Option Addr) (c : Nat) (A' : Option Addr) (c' : Nat) : Value := .agg #[.int .i64 L.start, .slice A L.due.length c, .slice A' L.posts.length c']

set_option maxHeartbeats 1000000 in
theorem own_any (s : Int) (A : Option Addr) (n c : Nat) (A' : Option Addr) (n' c' : Nat) (due : List Int) (posts : List Paid) (w : World) (hd : Ints w w.heap.size A n due) (hp : Posts w w.heap.size A' n' posts) (hn : n ≤ 4000000000) (hn' : n' ≤ 4000000000) :
    Calls Try.prog 35 #[.agg #[.int .i64 s, .slice A n c, .slice A' n' c']] w fun e w' => ∃ A1 c1 A2 c2, e = .returned (.agg #[.int .i64 s, .slice A1 n c1, .slice A2 n' c2]) ∧
      w'.ownsRow w.heap.size 3 1 (.slice A1 n c1) n (ints due) ∧ w'.ownsRow w.heap.size 47 4 (.slice A2 n' c2) n' (paids posts) ∧ Below w.heap.size w w' := by
  have KI := fun W (hW : Below w.heap.size w W) => Lib.hid (clone_int A n c due W ((hd.later (Nat.le_refl _) hW).more hW.size) hn)
  have KP := fun W (hW : Below w.heap.size w W) => Lib.hid (clone_paid A' n' c' posts W ((hp.later (Nat.le_refl _) hW).more hW.size) hn')
  clear hd hp
  go_enter Try.func35, Try.ntmps35
  go_wp2_with fail
  go_region_held3 (fun W => W.cell? ⟨w.heap.size, 0, none⟩ = some (.int .i64 s) ∧ W.cell? ⟨w.heap.size, 1, none⟩ = some (.slice A n c) ∧ W.cell? ⟨w.heap.size, 2, none⟩ = some (.slice A' n' c')) (first | exact hS1 | exact hS2 | go_keep) (first | (go_at_call 45; go_must (refine (KI _ (by go_grown)).out.mono ?_; rintro e w1 ⟨A1, c1, rfl, hown1, hb1⟩; have hB1 : Below w.heap.size w w1 := after (by go_grown) hb1; have hz1 : w.heap.size + 1 < w1.heap.size := Nat.lt_of_lt_of_le (by first | assumption | simp) hb1.size; obtain ⟨hc1, hf1⟩ := bcell hb1; have hS1 := held3 (b := w.heap.size) hb1 (by first | omega | (simp; done) | (simp; omega)) (by first | assumption | simp [go_sem]))) | (go_at_call 46; go_must (refine (KP _ (by go_grown)).out.mono ?_; rintro e w2 ⟨A2, c2, rfl, hown2, hb2⟩; have hB2 : Below w.heap.size w w2 := after (by go_grown) hb2; have hz2 : w.heap.size + 1 < w2.heap.size := Nat.lt_of_lt_of_le (by first | assumption | simp) hb2.size; obtain ⟨hc2, hf2⟩ := bcell hb2; have hS2 := held3 (b := w.heap.size) hb2 (by first | omega | (simp; done) | (simp; omega)) (by first | assumption | simp [go_sem]))))
  go_wp2
  refine bodyPost_ret (v := .agg #[.int .i64 s, .slice A1 n c1, .slice A2 n' c2]) (by simp [results, Try.results35, go_sem, hc1, hc2, hz1]) rfl ?_
  refine ⟨A1, c1, A2, c2, rfl, ?_, ?_, by go_grown⟩
  · have h1 := own_kept hown1 hb2 (Nat.le_refl _)
    exact own_more (ownsRow_setCell_below (ownsRow_setCell_below (ownsRow_setCell_below h1 (by simp) _) (by simp) _) (by simp) _) (by simp; omega)
  · exact own_more (ownsRow_setCell_below (ownsRow_setCell_below (ownsRow_setCell_below hown2 (by exact hz1) _) (by exact hz1) _) (by exact hz1) _) (by omega)
end Go.Proofs.Ytmaojcjnpblffaa
