/- Library functions that take a closure. -/
import Derived.Test.YtmaojcjnpblffaaLedT
namespace Go.Proofs.Ytmaojcjnpblffaa
open Go.RowKit

/-- The index of the first element that fits, or -1. -/
def fidx {α : Type} (p : α → Bool) (l : List α) : Int := match l.findIdx? p with | some i => (i : Int) | none => -1
theorem fidx_none {α : Type} {p : α → Bool} {l : List α} (h : l.any p = false) : fidx p l = -1 := by
  unfold fidx
  rw [List.findIdx?_eq_none_iff.2 (by simpa using h)]
theorem any_take_succ {α : Type} {p : α → Bool} {l : List α} {k : Nat} {x : α} (hx : l[k]? = some x) (h : (l.take k).any p = false) : (l.take (k + 1)).any p = p x := by
  rw [List.take_add_one, hx]; simp [h]
theorem fidx_hit {α : Type} {p : α → Bool} {l : List α} {k : Nat} {x : α} (hx : l[k]? = some x) (h : (l.take k).any p = false) (hp : p x = true) : fidx p l = k := by
  unfold fidx
  have : l.findIdx? p = some k := by
    rw [List.findIdx?_eq_some_iff_getElem]
    obtain ⟨hk, rfl⟩ := List.getElem?_eq_some_iff.1 hx
    refine ⟨hk, hp, fun j hj => ?_⟩
    have := List.any_eq_false.1 h (l[j]) (by rw [List.mem_take_iff_getElem]; exact ⟨j, by omega, rfl⟩)
    simpa using this
  rw [this]
theorem fidx_nonneg {α : Type} (p : α → Bool) (l : List α) : decide (0 ≤ fidx p l) = l.any p := by
  cases h : l.any p with
  | false => rw [fidx_none h]; rfl
  | true =>
    unfold fidx
    cases hh : l.findIdx? p with
    | none => rw [List.findIdx?_eq_none_iff] at hh; rw [List.any_eq_true] at h; obtain ⟨x, hx, hp⟩ := h; rw [hh x hx] at hp; cases hp
    | some i => simp

set_option maxHeartbeats 400000 in
theorem idx_paid (g : FuncId) (caps : Array Value) (A : Option Addr) (n c : Nat) (l : List Paid) (p : Paid → Bool) (w : World) (he : Enters_ Try.prog g) (hr : Posts w w.heap.size A n l) (hn : n ≤ 1000000)
    (hf : ∀ x W, x ∈ l → Below w.heap.size w W → Calls Try.prog g (#[x.val] ++ caps) W fun e W' => e = .returned (.bool (p x)) ∧ Below W.heap.size W W') :
    Calls Try.prog 55 #[.slice A n c, .func (.func g) #[] caps] w fun e w' => e = .returned (.int .i64 (fidx p l)) ∧ Below w.heap.size w w' := by
  go_enter Try.func55, Try.ntmps55
  go_wp2
  go_loopw [8] (fun i wr => ∃ k : Nat, k ≤ n ∧ i = .int .i64 k ∧ Below w.heap.size w wr ∧ (l.take k).any p = false) (fun i _ => n - (intOf i).toNat)
  case atStart => exact ⟨0, Nat.zero_le _, rfl, Below.refl _ _, by simp⟩
  case round =>
    obtain ⟨k, hk, rfl, hb, hnone⟩ := hrel
    by_cases hlt : k < n
    · obtain ⟨x, b, o, hx, rfl, hbB, c0, c1, c2, c3⟩ := (hr.later (Nat.le_refl _) hb).at_ hlt
      have H := Lib.hid (hf _ _ (List.mem_of_getElem? hx) hb)
      have Hx := Lib.hid hx
      have HN := Lib.hid hnone
      have he' := he.out
      clear hr hf hx hnone he
      go_wp2_with fail
      refine H.out.mono ?_
      rintro e w' ⟨rfl, hb'⟩
      have hbb := hb.trans (hb'.mono hb.size)
      clear H c0 c1 c2 c3 he'
      cases hp : p x
      · go_wp2
        go_roundw
        case rel => exact ⟨k + 1, by omega, by go_num, hbb, by rw [any_take_succ Hx.out HN.out]; exact hp⟩
        case measure => simp [intOf]; omega
      · have Hp := Lib.hid hp
        clear hp
        go_wp2
        go_ret
        exact ⟨ret_int (fidx_hit Hx.out HN.out Hp.out).symm, hbb⟩
    · have Hr := Lib.hid hr
      have HN := Lib.hid hnone
      clear hr hf hnone
      go_wp2
      go_ret
      exact ⟨ret_int (fidx_none (by have h := HN.out; rwa [List.take_of_length_le (by have := Hr.out.len; omega)] at h)).symm, hb⟩

set_option maxHeartbeats 400000 in
theorem has_paid (g : FuncId) (caps : Array Value) (A : Option Addr) (n c : Nat) (l : List Paid) (p : Paid → Bool) (w : World) (he : Enters_ Try.prog g) (hr : Posts w w.heap.size A n l) (hn : n ≤ 1000000)
    (hf : ∀ x W, x ∈ l → Below w.heap.size w W → Calls Try.prog g (#[x.val] ++ caps) W fun e W' => e = .returned (.bool (p x)) ∧ Below W.heap.size W W') :
    Calls Try.prog 48 #[.slice A n c, .func (.func g) #[] caps] w fun e w' => e = .returned (.bool (l.any p)) ∧ Below w.heap.size w w' := by
  have H := Lib.hid (idx_paid g caps A n c l p w he hr hn hf)
  clear hr hf
  go_enter Try.func48, Try.ntmps48
  go_wp2_with fail
  refine H.out.mono ?_
  rintro e w' ⟨rfl, hb⟩
  clear H
  go_wp2
  go_ret
  exact ⟨ret_bool (fidx_nonneg _ _), hb⟩
end Go.Proofs.Ytmaojcjnpblffaa
