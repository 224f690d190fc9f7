/- What the reference asks of a record, and what a part of the writing leaves. No program. -/
import Derived.Test.YtbkicepkkcambaaJouS
namespace Go.Proofs.Ytbkicepkkcambaa
set_option linter.unusedVariables false
set_option linter.unusedSimpArgs false

theorem sizeAt_num {r : Bytes} (h : 6 ≤ r.length) : num ((r.drop 4).take 2) = sizeAt r := by
  match r, h with
  | a :: b :: c :: d :: e :: f :: t, _ => simp [num, sizeAt]
theorem formed_ref {r : Bytes} {k q : Nat} (hk : k ≤ 65536) (hq : sizeAt r = q) (hq4 : q ≤ 4096) (hl : q + 10 ≤ r.length) :
    (formed k ((r.drop 6).take q) = r.take (q + 10)) ↔ (num (r.take 4) = k ∧ num ((r.drop (q + 6)).take 4) = check (r.take (q + 6))) := by
  have hp : ((r.drop 6).take q).length = q := by simp; omega
  have h2 : (r.drop 4).take 2 = le q 2 := by
    have h := le_num ((r.drop 4).take 2)
    rw [sizeAt_num (by omega), hq, show ((r.drop 4).take 2).length = 2 by simp; omega] at h
    exact h.symm
  have h6 : r.take (q + 6) = r.take 4 ++ (le q 2 ++ (r.drop 6).take q) := by
    rw [show q + 6 = 4 + (2 + q) by omega, List.take_add, List.take_add (l := r.drop 4), h2, List.drop_drop]
  have h1 : r.take (q + 10) = r.take 4 ++ (le q 2 ++ ((r.drop 6).take q ++ (r.drop (q + 6)).take 4)) := by
    rw [show q + 10 = (q + 6) + 4 by omega, List.take_add, h6]
    simp
  have l4 : (r.take 4).length = 4 := by simp; omega
  have c4 : ((r.drop (q + 6)).take 4).length = 4 := by simp; omega
  have hh : headOf k ((r.drop 6).take q) = le k 4 ++ (le q 2 ++ (r.drop 6).take q) := by simp [headOf, hp]
  rw [formed_eq, h1, hp, hh]
  generalize (r.drop 6).take q = p at *
  constructor
  · intro h
    obtain ⟨a1, a2⟩ := List.append_inj h (by rw [le_length, l4])
    obtain ⟨_, a3⟩ := List.append_inj a2 rfl
    obtain ⟨_, a4⟩ := List.append_inj a3 rfl
    refine ⟨by rw [← a1, num_le _ _ (by omega)], ?_⟩
    rw [← a4, a1, ← h6, num_le _ _ (check_lt _)]
  · rintro ⟨a1, a2⟩
    have e1 : le k 4 = r.take 4 := by have h := le_num (r.take 4); rw [l4, a1] at h; exact h
    have e2 : le (check (r.take (q + 6))) 4 = (r.drop (q + 6)).take 4 := by have h := le_num ((r.drop (q + 6)).take 4); rw [c4, a2] at h; exact h
    rw [e1, ← h6, e2]
theorem nextR_short {r : Bytes} {k : Nat} (h : r.length < 10) : nextR r k = none := by
  unfold nextR
  by_cases hc : 65536 < k ∨ r.length < 6
  · rw [if_pos hc]
  · rw [if_neg hc, if_pos (.inr (by omega))]
theorem nextR_many {r : Bytes} {k : Nat} (h : 65536 < k) : nextR r k = none := by
  unfold nextR
  rw [if_pos (.inl h)]
theorem nextR_size {r : Bytes} {k q : Nat} (hq : sizeAt r = q) (h : 4096 < q ∨ r.length < q + 10) : nextR r k = none := by
  unfold nextR
  rw [hq]
  by_cases hc : 65536 < k ∨ r.length < 6
  · rw [if_pos hc]
  · rw [if_neg hc, if_pos h]
theorem nextR_ref {r : Bytes} {k q : Nat} (hk : k ≤ 65536) (hq : sizeAt r = q) (hq4 : q ≤ 4096) (hl : q + 10 ≤ r.length) :
    nextR r k = if num (r.take 4) = k ∧ num ((r.drop (q + 6)).take 4) = check (r.take (q + 6)) then some ((r.drop 6).take q) else none := by
  unfold nextR
  rw [hq, if_neg (by omega), if_neg (by omega)]
  by_cases h : num (r.take 4) = k ∧ num ((r.drop (q + 6)).take 4) = check (r.take (q + 6))
  · rw [if_pos h, if_pos ((formed_ref hk hq hq4 hl).2 h)]
  · rw [if_neg h, if_neg fun e => h ((formed_ref hk hq hq4 hl).1 e)]
/-- The power when i bytes were written. -/
def powAt (p : Int) (i : Nat) : Int := if 0 ≤ p then p - i else p
theorem powAt_zero (p : Int) : powAt p 0 = p := by unfold powAt; split <;> omega
theorem powAt_succ {p : Int} {i : Nat} (h : powAt p i ≠ 0) (h0 : -1 ≤ p) (h1 : p < 0 ∨ (i : Int) ≤ p) : (p < 0 ∨ ((i + 1 : Nat) : Int) ≤ p) ∧ powAt p (i + 1) = if 0 < powAt p i then powAt p i - 1 else powAt p i := by
  unfold powAt at *
  split at h <;> split <;> (try split) <;> omega
theorem wrote_done {d x : Bytes} {p : Int} (h1 : p < 0 ∨ (x.length : Int) ≤ p) : ((⟨d ++ x, powAt p x.length⟩ : Sto), (0 : Int)) = (wrote ⟨d, p⟩ x, wroteE ⟨d, p⟩ x) := by
  have hc : canW p x.length = x.length := by unfold canW; split <;> omega
  unfold wrote wroteE powAt
  dsimp only
  rw [hc, List.take_length, if_neg (show ¬ x.length < x.length by omega)]
theorem wrote_stop {d x : Bytes} {p : Int} {i : Nat} (hi : i < x.length) (h : powAt p i = 0) (h0 : -1 ≤ p) (h1 : p < 0 ∨ (i : Int) ≤ p) : ((⟨d ++ x.take i, 0⟩ : Sto), (370 : Int)) = (wrote ⟨d, p⟩ x, wroteE ⟨d, p⟩ x) := by
  have hp : p = i := by
    unfold powAt at h
    split at h <;> omega
  subst hp
  have hc : canW (i : Int) x.length = i := by unfold canW; split <;> omega
  unfold wrote wroteE
  dsimp only
  rw [hc, if_pos (by omega), if_pos hi]
  simp
end Go.Proofs.Ytbkicepkkcambaa
