/- Arguments that come in, opened: bytes, payloads, stores, integers. -/
import Derived.Test.YtbkicepkkcambaaJouP
import Derived.Test.YtbkicepkkcambaaRows
import Derived.ProofKit
import Derived.OpenShut
import Derived.ShutString
import Derived.ChangeOld
import Derived.Lib.SmallJoins
import Derived.Deep.Slices
import Derived.Deep.Fields
namespace Go.Proofs.Ytbkicepkkcambaa
open Go.ChangeShapes Go.WideShapes Go.ChangeAt Go.RowKit Go.Joins Go.Deep
set_option linter.unusedVariables false
set_option linter.unusedSimpArgs false

theorem ownKnob_ : ownKnob Try.prog.godebug = none := by kernel_rfl
theorem laidOut_ : laidOutB Try.prog = true := by kernel_rfl
theorem list_of {α : Type} {P : Nat → α → Prop} : ∀ n, (∀ i, i < n → ∃ x, P i x) → ∃ l : List α, l.length = n ∧ ∀ i x, l[i]? = some x → P i x
  | 0, _ => ⟨[], rfl, fun i x h => by simp at h⟩
  | n + 1, h => by
    obtain ⟨l, hl, hp⟩ := list_of n fun i hi => h i (by omega)
    obtain ⟨x, hx⟩ := h n (by omega)
    refine ⟨l ++ [x], by simp [hl], fun i y hy => ?_⟩
    rcases Nat.lt_or_ge i n with hi | hi
    · exact hp i y (by rwa [List.getElem?_append_left (by omega)] at hy)
    · rw [List.getElem?_append_right (by omega)] at hy
      have hin : i = n := by
        have := (List.getElem?_eq_some_iff.1 hy).1
        simp at this
        omega
      subst hin
      simp [hl] at hy
      subst hy
      exact hx
theorem i64_wf {n : Int} (h : (Lit.int .i64 n).wf = true) : -9223372036854775808 ≤ n ∧ n ≤ 9223372036854775807 := by
  simp [Lit.wf, IntKind.min, IntKind.max, IntKind.bits, IntKind.signed] at h
  exact h
theorem u8_wf {n : Int} (h : (Lit.int .u8 n).wf = true) : 0 ≤ n ∧ n ≤ 255 := by
  simp [Lit.wf, IntKind.min, IntKind.max, IntKind.bits, IntKind.signed] at h
  exact h
def intv (l : List Int) : List Value := l.map (.int .i64)
/-- A slice of integers reads as l. -/
structure Ints (w : World) (B : Nat) (A : Option Addr) (n : Nat) (l : List Int) : Prop where
  len : l.length = n
  reads : Reads w B 1 A n (intv l)
theorem Ints.to {w w' : World} {n : Nat} {A : Option Addr} {l : List Int} (h : Ints w w.heap.size A n l) (hb : Below w.heap.size w w') : Ints w' w'.heap.size A n l := ⟨h.len, (h.reads.later (Nat.le_refl _) hb).more hb.size⟩
theorem Ints.at_ {w : World} {B n : Nat} {A : Option Addr} {l : List Int} (h : Ints w B A n l) {i : Nat} (hi : i < n) : ∃ x b o, l[i]? = some x ∧ A = some ⟨b, o, none⟩ ∧ b < B ∧ w.cell? ⟨b, o + i, none⟩ = some (.int .i64 x) := by
  obtain ⟨b, o, e, hb, hc⟩ := h.reads.2 (by omega)
  have hl : i < l.length := by rw [h.len]; exact hi
  exact ⟨l[i], b, o, List.getElem?_eq_getElem hl, e, hb, hc _ _ (by simp [intv, List.getElem?_map, List.getElem?_eq_getElem hl])⟩

section
variable {H : Type} {enc : TypeId × Value → H} {w : World} {base : Nat} {spare : Nat → Bool} {held : Bool}
theorem open_ints_ {fuel : Nat} {v : Value} {x : DataW H × List MemPlace} (h : DataW.trod enc Try.prog w base spare held fuel 22 [v] = some x) :
    ∃ (A : Option Addr) (n c : Nat) (l : List Int), v = .slice A n c ∧ Ints w w.heap.size A n l ∧ n ≤ c ∧ c ≤ 9223372036854775807 ∧ ∀ d ∈ l, -9223372036854775808 ≤ d ∧ d ≤ 9223372036854775807 := by
  rcases open_slice Try.underlying22 h with ⟨hv, _⟩ | ⟨a, len, cap, m, n, D, Pl, hv, _, hl, hm, hmm, _, hel⟩
  · simp at hv
    subst hv
    exact ⟨none, 0, 0, [], rfl, ⟨rfl, Reads.none_⟩, Nat.le_refl _, by omega, by simp⟩
  · simp at hv
    subst hv
    have hone : Try.prog.cellsOf 3 = 1 := by kernel_rfl
    have hlm : len ≤ m := by rw [hmm]; split <;> omega
    obtain ⟨l, hll, hp⟩ := list_of (P := fun i (x : Int) => w.cell? (a.add i) = some (.int .i64 x) ∧ -9223372036854775808 ≤ x ∧ x ≤ 9223372036854775807) len (fun i hi => by
      obtain ⟨cs', hc, ht⟩ := hel i (by omega)
      rw [hone] at hc
      obtain ⟨_, hcl, hat⟩ := World.cells?_some hc
      obtain ⟨y, hy, _, hwf⟩ := DataW.trod_int Try.underlying3 ht
      subst hy
      refine ⟨y, ?_, i64_wf hwf⟩
      have := hat 0 (by omega)
      simpa [Addr.add_zero'] using this)
    have hcell : ∀ j u, (intv l)[j]? = some u → w.cell? (a.add j) = some u := by
      intro j u hu
      simp only [intv, List.getElem?_map, Option.map_eq_some_iff] at hu
      obtain ⟨y, hy, rfl⟩ := hu
      exact (hp j y hy).1
    refine ⟨some a, len, cap, l, rfl, ⟨hll, ?_⟩, hl, by unfold maxLen at hm; omega, fun d hd => ?_⟩
    · by_cases h0 : len = 0
      · subst h0
        exact ⟨by simp [intv, hll], fun h => absurd h (by omega)⟩
      · refine Reads.of_add (by omega) (by simp [intv, hll]) ?_ hcell
        have := hcell 0 _ (List.getElem?_eq_getElem (show 0 < (intv l).length by simp [intv, hll]; omega))
        have := World.block_lt_of_cell? w _ this
        simpa [Addr.add_zero'] using this
    · obtain ⟨i, hi, rfl⟩ := List.getElem_of_mem hd
      exact (hp i _ (List.getElem?_eq_getElem hi)).2
theorem open_bytes_ {fuel : Nat} {v : Value} {x : DataW H × List MemPlace} (h : DataW.trod enc Try.prog w base spare held fuel 25 [v] = some x) :
    ∃ (A : Option Addr) (n c : Nat) (l : Bytes), v = .slice A n c ∧ Bys w w.heap.size A n l ∧ n ≤ c ∧ c ≤ 9223372036854775807 := by
  rcases open_slice Try.underlying25 h with ⟨hv, _⟩ | ⟨a, len, cap, m, n, D, Pl, hv, _, hl, hm, hmm, _, hel⟩
  · simp at hv
    subst hv
    exact ⟨none, 0, 0, [], rfl, Bys.nil_, Nat.le_refl _, by omega⟩
  · simp at hv
    subst hv
    have hone : Try.prog.cellsOf 5 = 1 := by kernel_rfl
    have hlm : len ≤ m := by rw [hmm]; split <;> omega
    obtain ⟨l, hll, hp⟩ := list_of (P := fun i (x : UInt8) => w.cell? (a.add i) = some (.int .u8 (x.toNat : Int))) len (fun i hi => by
      obtain ⟨cs', hc, ht⟩ := hel i (by omega)
      rw [hone] at hc
      obtain ⟨_, hcl, hat⟩ := World.cells?_some hc
      obtain ⟨y, hy, _, hwf⟩ := DataW.trod_int Try.underlying5 ht
      subst hy
      have hu := u8_wf hwf
      refine ⟨UInt8.ofNat y.toNat, ?_⟩
      have hy : ((UInt8.ofNat y.toNat).toNat : Int) = y := by
        rw [UInt8.toNat_ofNat']
        omega
      rw [hy]
      have := hat 0 (by omega)
      simpa [Addr.add_zero'] using this)
    have hcell : ∀ j u, (bys l)[j]? = some u → w.cell? (a.add j) = some u := by
      intro j u hu
      rw [bys_get, Option.map_eq_some_iff] at hu
      obtain ⟨y, hy, rfl⟩ := hu
      exact hp j y hy
    refine ⟨some a, len, cap, l, rfl, ⟨hll, ?_⟩, hl, by unfold maxLen at hm; omega⟩
    by_cases h0 : len = 0
    · subst h0
      exact ⟨by rw [bys_length, hll], fun h => absurd h (by omega)⟩
    · refine Reads.of_add (by omega) (by rw [bys_length, hll, Nat.mul_one]) ?_ hcell
      have := hcell 0 _ (List.getElem?_eq_getElem (show 0 < (bys l).length by rw [bys_length, hll]; omega))
      have := World.block_lt_of_cell? w _ this
      simpa [Addr.add_zero'] using this
theorem rws_of {w : World} {B : Nat} : ∀ {vs : List Value} {l : List Bytes}, vs.length = l.length → (∀ (i : Nat) (v : Value) (x : Bytes), vs[i]? = some v → l[i]? = some x → ∃ A c, v = .slice A x.length c ∧ x.length ≤ c ∧ c ≤ 9223372036854775807 ∧ Bys w B A x.length x) → Rws w B vs l
  | [], [], _, _ => trivial
  | v :: vs, x :: l, h, H => ⟨H 0 v x rfl rfl, rws_of (by simpa using h) fun i v x h1 h2 => H (i + 1) v x (by simpa using h1) (by simpa using h2)⟩
  | [], _ :: _, h, _ => by simp at h
  | _ :: _, [], h, _ => by simp at h
theorem open_texts_ {fuel : Nat} {v : Value} {x : DataW H × List MemPlace} (h : DataW.trod enc Try.prog w base spare held fuel 23 [v] = some x) :
    ∃ (A : Option Addr) (n c : Nat) (l : List Bytes), v = .slice A n c ∧ Tx w w.heap.size A n l ∧ n ≤ c ∧ c ≤ 9223372036854775807 := by
  rcases open_slice Try.underlying23 h with ⟨hv, _⟩ | ⟨a, len, cap, m, n, D, Pl, hv, _, hl, hm, hmm, _, hel⟩
  · simp at hv
    subst hv
    exact ⟨none, 0, 0, [], rfl, Tx.nil_, Nat.le_refl _, by omega⟩
  · simp at hv
    subst hv
    have hone : Try.prog.cellsOf 25 = 1 := by kernel_rfl
    have hlm : len ≤ m := by rw [hmm]; split <;> omega
    obtain ⟨l, hll, hp⟩ := list_of (P := fun i (y : Value × Bytes) => w.cell? (a.add i) = some y.1 ∧ ∃ A c, y.1 = .slice A y.2.length c ∧ y.2.length ≤ c ∧ c ≤ 9223372036854775807 ∧ Bys w w.heap.size A y.2.length y.2) len (fun i hi => by
      obtain ⟨cs', hc, ht⟩ := hel i (by omega)
      rw [hone] at hc
      obtain ⟨_, hcl, hat⟩ := World.cells?_some hc
      obtain ⟨c0, rfl⟩ : ∃ c0, cs' = [c0] := by
        match cs', hcl with
        | [c0], _ => exact ⟨c0, rfl⟩
      obtain ⟨A1, n1, c1, l1, rfl, hb1, h1, h2⟩ := open_bytes_ ht
      have hlen := hb1.len
      subst hlen
      refine ⟨(.slice A1 l1.length c1, l1), ?_, A1, c1, rfl, h1, h2, hb1⟩
      have := hat 0 (by omega)
      simpa [Addr.add_zero'] using this)
    have hcell : ∀ j u, (l.map Prod.fst)[j]? = some u → w.cell? (a.add j) = some u := by
      intro j u hu
      rw [List.getElem?_map, Option.map_eq_some_iff] at hu
      obtain ⟨y, hy, rfl⟩ := hu
      exact (hp j y hy).1
    refine ⟨some a, len, cap, l.map Prod.snd, rfl, ⟨by rw [List.length_map, hll], l.map Prod.fst, ?_, ?_⟩, hl, by unfold maxLen at hm; omega⟩
    · by_cases h0 : len = 0
      · subst h0
        exact ⟨by rw [List.length_map, hll], fun h => absurd h (by omega)⟩
      · refine Reads.of_add (by omega) (by rw [List.length_map, hll, Nat.mul_one]) ?_ hcell
        have := hcell 0 _ (List.getElem?_eq_getElem (show 0 < (l.map Prod.fst).length by rw [List.length_map, hll]; omega))
        have := World.block_lt_of_cell? w _ this
        simpa [Addr.add_zero'] using this
    · refine rws_of (by simp) fun i v x h1 h2 => ?_
      rw [List.getElem?_map, Option.map_eq_some_iff] at h1 h2
      obtain ⟨y, hy, rfl⟩ := h1
      obtain ⟨y', hy', rfl⟩ := h2
      rw [hy] at hy'
      injection hy' with hy'
      subst hy'
      exact (hp i y hy).2
theorem open_sto_ {r : Reach} {b0 : Nat} {v : Value} {d : DataW H} {p : List MemPlace} (hv : Value.okWide Try.prog w r b0 27 v) (h : DataW.Trod enc Try.prog w base spare held 27 v d p) :
    ∃ (A : Option Addr) (n c : Nat) (s : Sto), v = .agg #[.slice A n c, .int .i64 s.power] ∧ Bys w w.heap.size A n s.data ∧ n ≤ c ∧ c ≤ 9223372036854775807 ∧ -9223372036854775808 ≤ s.power ∧ s.power ≤ 9223372036854775807 := by
  obtain ⟨v0, v1, y0, y1, m, rfl, _, _, h0, h1⟩ := open_agg2 Try.underlying27 (by kernel_rfl) (by kernel_rfl) hv h
  obtain ⟨s, e0, _, ws⟩ := DataW.trod_int Try.underlying3 h1
  simp at e0
  subst e0
  obtain ⟨A, n, c, l, rfl, hd, n0, n1⟩ := open_bytes_ h0
  have := i64_wf ws
  exact ⟨A, n, c, ⟨l, s⟩, rfl, hd, n0, n1, this.1, this.2⟩
end
end Go.Proofs.Ytbkicepkkcambaa
