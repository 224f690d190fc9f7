/- Plain laws of balances. -/
import Derived.Test.YtmaojcjnpblffaaLedL
namespace Go.Proofs.Ytmaojcjnpblffaa
open Go.RowKit BigFrame

def opensTo (L : Led) : Nat → Int
  | 0 => 0
  | k + 1 => opensTo L k + openV L (L.start + k)
theorem openV_at (L : Led) (k : Nat) : openV L (L.start + k) = L.due.getD k 0 - postedV L (L.start + k) := by
  unfold openV
  rw [show (L.start + (k : Int) - L.start).toNat = k by omega]
theorem balTo_eq (L : Led) (b : Int) : ∀ j : Nat, balTo L b j = opensTo L (min j (b - L.start).toNat)
  | 0 => by simp [balTo, opensTo]
  | j + 1 => by
    rw [balTo, balTo_eq L b j]
    by_cases h : L.start + (j : Int) < b
    · rw [if_pos h, show min (j + 1) (b - L.start).toNat = j + 1 by omega, show min j (b - L.start).toNat = j by omega, opensTo, openV_at]
    · rw [if_neg h, show min (j + 1) (b - L.start).toNat = min j (b - L.start).toNat by omega]
      omega
theorem balanceV_at (L : Led) (k : Nat) (hk : k ≤ L.due.length) : balanceV L (L.start + k) = opensTo L k := by
  unfold balanceV
  rw [balTo_eq, show min L.due.length (L.start + (k : Int) - L.start).toNat = k by omega]
theorem balanceV_low (L : Led) (b : Int) (hb : b ≤ L.start) : balanceV L b = 0 := by
  unfold balanceV
  rw [balTo_eq, show min L.due.length (b - L.start).toNat = 0 by omega]
  rfl
theorem balanceV_high (L : Led) (b : Int) (hb : L.start + L.due.length ≤ b) : balanceV L b = opensTo L L.due.length := by
  unfold balanceV
  rw [balTo_eq, show min L.due.length (b - L.start).toNat = L.due.length by omega]
theorem opensTo_bd {L : Led} (hv : validB L = true) (k : Nat) (hk : k ≤ L.due.length) : -(4399146022731776 * (k : Int)) ≤ opensTo L k ∧ opensTo L k ≤ 4399146022731776 * (k : Int) := by
  have := balTo_bd hv (L.start + k) k hk
  rw [balTo_eq, show min k (L.start + (k : Int) - L.start).toNat = k by omega] at this
  exact this
theorem balanceR_ok {L : Led} (hv : validB L = true) (b : Int) : balanceR L b = (balanceV L b, 0) := by unfold balanceR; rw [if_neg (by simp [hv])]
theorem has_at {L : Led} {k : Nat} (hk : k < L.due.length) : hasB L.start L.due.length (L.start + k) = true := decide_eq_true (by omega)
theorem openR_ok {L : Led} (hv : validB L = true) {k : Nat} (hk : k < L.due.length) : openR L (L.start + k) = (openV L (L.start + k), 0) := by
  unfold openR; rw [if_neg (by simp [hv]), if_neg (by simp [has_at hk])]
theorem postedR_ok {L : Led} (hv : validB L = true) {k : Nat} (hk : k < L.due.length) : postedR L (L.start + k) = (postedV L (L.start + k), 0) := by
  unfold postedR; rw [if_neg (by simp [hv]), if_neg (by simp [has_at hk])]
theorem openV_bd {L : Led} (hv : validB L = true) {k : Nat} (hk : k < L.due.length) : -4399146022731776 ≤ openV L (L.start + k) ∧ openV L (L.start + k) ≤ 4399146022731776 := by
  have hp := posted_bd hv (L.start + k)
  obtain ⟨_, hdue, _⟩ := valid_here hv
  have hd := hdue (L.due.getD k 0) (by rw [List.getD_eq_getElem?_getD, List.getElem?_eq_getElem (by omega)]; exact List.getElem_mem _)
  rw [openV_at]
  omega
theorem usable_here {L : Led} (h : usableB L = true) : L.due.length ≤ 40 ∧ L.posts.length ≤ 60 ∧ validB L = true := by
  unfold usableB at h
  simp only [Bool.and_eq_true, decide_eq_true_eq] at h
  exact ⟨h.1.1, h.1.2, h.2⟩
end Go.Proofs.Ytmaojcjnpblffaa
