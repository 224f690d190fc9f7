/- Contracts of the ledger's small functions, up to its validity. -/
import Derived.Test.YtmaojcjnpblffaaLedA
namespace Go.Proofs.Ytmaojcjnpblffaa
open Go.RowKit

structure Led where
  start : Int
  due : List Int
  posts : List Paid
def amtB (n : Int) : Bool := decide (0 ≤ n ∧ n ≤ 1099511627776)
def hasB (s : Int) (k : Nat) (m : Int) : Bool := decide (s ≤ m ∧ m < s + k)
def fitsB (s : Int) (k : Nat) (p : Paid) : Bool :=
  decide ((0 ≤ p.day ∧ p.day < 65536) ∧ (s ≤ p.month ∧ p.month < s + k) ∧
    (((p.kind = 1 ∨ p.kind = 2 ∨ p.kind = 3 ∨ p.kind = 6) ∧ 0 ≤ p.amount ∧ p.amount ≤ 1099511627776) ∨ ((p.kind = 4 ∨ p.kind = 5) ∧ p.amount ≤ 0 ∧ -1099511627776 ≤ p.amount)))
/-- The ranges of a posting's fields, as Go's types have them. -/
structure Paid.wf (p : Paid) : Prop where
  d0 : -9223372036854775808 ≤ p.day
  d1 : p.day ≤ 9223372036854775807
  m0 : -9223372036854775808 ≤ p.month
  m1 : p.month ≤ 9223372036854775807
  k0 : 0 ≤ p.kind
  k1 : p.kind ≤ 255
  a0 : -9223372036854775808 ≤ p.amount
  a1 : p.amount ≤ 9223372036854775807

set_option maxHeartbeats 400000 in
theorem amount_any (n : Int) (w : World) : Calls Try.prog 33 #[.int .i64 n] w fun e w' => e = .returned (.bool (amtB n)) ∧ w = w' := by
  go_enter Try.func33, Try.ntmps33
  go_wp2
  all_goals go_ret
  all_goals refine ⟨ret_bool ?_, rfl⟩
  all_goals first | exact dec_of (by omega) | exact false_dec (by omega) | exact true_dec (by omega)

set_option maxHeartbeats 400000 in
theorem dueclosure (n : Int) (w : World) : Calls Try.prog 37 #[.int .i64 n] w fun e w' => e = .returned (.bool (!amtB n)) ∧ w = w' := by
  go_enter Try.func37, Try.ntmps37
  go_wp2_with (go_at_call 33; refine (amount_any _ _).mono ?_; rintro e w' ⟨rfl, rfl⟩)
  go_ret
  exact ⟨rfl, rfl⟩

set_option maxHeartbeats 400000 in
theorem has_any (s : Int) (A A' : Option Addr) (n c n' c' : Nat) (m : Int) (w : World) (hs : 0 ≤ s) (hs' : s ≤ 1000000) (_hn : n ≤ 1000000) (hm : m ≤ 9223372036854775807) :
    Calls Try.prog 34 #[.agg #[.int .i64 s, .slice A n c, .slice A' n' c'], .int .i64 m] w fun e w' => e = .returned (.bool (hasB s n m)) ∧ Below w.heap.size w w' := by
  go_enter Try.func34, Try.ntmps34
  by_cases h : s ≤ m
  all_goals
    go_wp2
    go_ret
    refine ⟨ret_bool ?_, by go_grown⟩
    first | exact dec_of (by omega) | exact false_dec (by omega) | exact true_dec (by omega)

set_option maxHeartbeats 1000000 in
theorem fits_any (s : Int) (A A' : Option Addr) (n c n' c' : Nat) (p : Paid) (w : World) (hs : 0 ≤ s) (hs' : s ≤ 1000000) (hn : n ≤ 1000000) (hp : p.wf) :
    Calls Try.prog 50 #[.agg #[.int .i64 s, .slice A n c, .slice A' n' c'], p.val] w fun e w' => e = .returned (.bool (fitsB s n p)) ∧ Below w.heap.size w w' := by
  obtain ⟨day, month, kind, amount⟩ := p
  have hm := hp.m1
  unfold Paid.val
  go_enter Try.func50, Try.ntmps50
  cases hh : hasB s n month
  all_goals
    go_wp2_with (first | (go_at_call 34; refine (has_any _ _ _ _ _ _ _ _ _ (by omega) (by omega) (by omega) (by omega)).mono ?_; rintro e w1 ⟨rfl, hb1⟩; have hB1 : Below w.heap.size w w1 := after (by go_grown) hb1; obtain ⟨hc1, hf1⟩ := bcell hb1) | (go_at_call 33; refine (amount_any _ _).mono ?_; rintro e w2 ⟨rfl, rfl⟩))
    all_goals
      go_ret
      refine ⟨ret_bool ?_, by go_grown⟩
      simp only [hasB, decide_eq_true_eq, decide_eq_false_iff_not] at hh
      try simp only [beq_iff_eq, beq_eq_false_iff_ne, ne_eq] at *
      unfold fitsB
      dsimp only
      first | exact dec_of (by omega) | exact false_dec (by omega) | exact true_dec (by omega)

set_option maxHeartbeats 400000 in
theorem idx_int (g : FuncId) (caps : Array Value) (A : Option Addr) (n c : Nat) (l : List Int) (p : Int → Bool) (w : World) (he : Enters_ Try.prog g) (hr : Ints w w.heap.size A n l) (hn : n ≤ 1000000)
    (hf : ∀ x W, x ∈ l → Below w.heap.size w W → Calls Try.prog g (#[.int .i64 x] ++ caps) W fun e W' => e = .returned (.bool (p x)) ∧ Below W.heap.size W W') :
    Calls Try.prog 47 #[.slice A n c, .func (.func g) #[] caps] w fun e w' => e = .returned (.int .i64 (fidx p l)) ∧ Below w.heap.size w w' := by
  go_enter Try.func47, Try.ntmps47
  go_wp2
  go_loopw [8] (fun i wr => ∃ k : Nat, k ≤ n ∧ i = .int .i64 k ∧ Below w.heap.size w wr ∧ (l.take k).any p = false) (fun i _ => n - (intOf i).toNat)
  case atStart => exact ⟨0, Nat.zero_le _, rfl, Below.refl _ _, by simp⟩
  case round =>
    obtain ⟨k, hk, rfl, hb, hnone⟩ := hrel
    by_cases hlt : k < n
    · obtain ⟨x, b, o, hx, rfl, hbB, c0⟩ := (hr.later (Nat.le_refl _) hb).at_ hlt
      have H := Lib.hid (hf _ _ (List.mem_of_getElem? hx) hb)
      have Hx := Lib.hid hx
      have HN := Lib.hid hnone
      have he' := he.out
      clear hr hf hx hnone he
      go_wp2_with fail
      refine H.out.mono ?_
      rintro e w' ⟨rfl, hb'⟩
      have hbb := hb.trans (hb'.mono hb.size)
      clear H c0 he'
      cases hp : p x
      · go_wp2
        go_roundw
        case rel => exact ⟨k + 1, by omega, by go_num, hbb, by rw [any_take_succ Hx.out HN.out]; exact hp⟩
        case measure => simp [intOf]; omega
      · have Hp := Lib.hid hp
        clear hp
        go_wp2
        go_ret
        exact ⟨ret_int (fidx_hit Hx.out HN.out Hp.out).symm, hbb⟩
    · have Hr := Lib.hid hr
      have HN := Lib.hid hnone
      clear hr hf hnone
      go_wp2
      go_ret
      exact ⟨ret_int (fidx_none (by have h := HN.out; rwa [List.take_of_length_le (by have := Hr.out.len; omega)] at h)).symm, hb⟩

set_option maxHeartbeats 400000 in
theorem has_int (g : FuncId) (caps : Array Value) (A : Option Addr) (n c : Nat) (l : List Int) (p : Int → Bool) (w : World) (he : Enters_ Try.prog g) (hr : Ints w w.heap.size A n l) (hn : n ≤ 1000000)
    (hf : ∀ x W, x ∈ l → Below w.heap.size w W → Calls Try.prog g (#[.int .i64 x] ++ caps) W fun e W' => e = .returned (.bool (p x)) ∧ Below W.heap.size W W') :
    Calls Try.prog 36 #[.slice A n c, .func (.func g) #[] caps] w fun e w' => e = .returned (.bool (l.any p)) ∧ Below w.heap.size w w' := by
  have H := Lib.hid (idx_int g caps A n c l p w he hr hn hf)
  clear hr hf
  go_enter Try.func36, Try.ntmps36
  go_wp2_with fail
  refine H.out.mono ?_
  rintro e w' ⟨rfl, hb⟩
  clear H
  go_wp2
  go_ret
  exact ⟨ret_bool (fidx_nonneg _ _), hb⟩

set_option maxHeartbeats 400000 in
/-- The closure of Ledger.posts that looks for a posting that is not valid; the ledger lies in block b. -/
theorem fitsclosure (b : Nat) (s : Int) (A A' : Option Addr) (n c n' c' : Nat) (p : Paid) (w : World) (hs : 0 ≤ s) (hs' : s ≤ 1000000) (hn : n ≤ 1000000) (hp : p.wf) (hb : b < w.heap.size)
    (h0 : w.cell? ⟨b, 0, none⟩ = some (.int .i64 s)) (h1 : w.cell? ⟨b, 1, none⟩ = some (.slice A n c)) (h2 : w.cell? ⟨b, 2, none⟩ = some (.slice A' n' c')) :
    Calls Try.prog 49 #[p.val, .pointer (some ⟨b, 0, none⟩)] w fun e w' => e = .returned (.bool (!fitsB s n p)) ∧ Below w.heap.size w w' := by
  have H := fun W => Lib.hid (fits_any s A A' n c n' c' p W hs hs' hn hp)
  unfold Paid.val at *
  go_enter Try.func49, Try.ntmps49
  go_wp2_with fail
  refine (H _).out.mono ?_
  rintro e w1 ⟨rfl, hb1⟩
  have hB1 : Below w.heap.size w w1 := after (by go_grown) hb1
  clear H hb1
  go_wp2
  go_ret
  exact ⟨rfl, hB1⟩

set_option maxHeartbeats 400000 in
/-- The closure of Ledger.posts that compares days. -/
theorem dayclosure (p q : Paid) (w : World) (hp : 0 ≤ p.day) (hp' : p.day ≤ 65536) (hq : 0 ≤ q.day) (hq' : q.day ≤ 65536) :
    Calls Try.prog 52 #[p.val, q.val] w fun e w' => e = .returned (.int .i64 (p.day - q.day)) ∧ Below w.heap.size w w' := by
  unfold Paid.val
  go_enter Try.func52, Try.ntmps52
  go_wp2
  go_ret
  exact ⟨rfl, by go_grown⟩
end Go.Proofs.Ytmaojcjnpblffaa
