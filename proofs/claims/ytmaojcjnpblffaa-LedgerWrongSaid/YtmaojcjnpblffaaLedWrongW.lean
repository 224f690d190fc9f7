/- Plain laws of postings with a defect. -/
import Derived.Test.YtmaojcjnpblffaaLedCopy
namespace Go.Proofs.Ytmaojcjnpblffaa
open Go.RowKit BigFrame
set_option linter.unusedVariables false

/-- The day of the last posting, or 0. -/
def lastDay (L : Led) : Int := match L.posts.getLast? with | some x => x.day | none => 0
def goodOf (L : Led) : Paid := ⟨lastDay L, L.start, 1, 1⟩
def imin (a b : Int) : Int := if b < a then b else a
def imax (a b : Int) : Int := if a < b then b else a
def badOf (L : Led) (r : Nat) (x : Int) : Paid := match r with
  | 0 => ⟨imax x 65536, L.start, 1, 1⟩
  | 1 => ⟨imin x (lastDay L - 1), L.start, 1, 1⟩
  | 2 => ⟨lastDay L, imin x (L.start - 1), 1, 1⟩
  | 3 => ⟨lastDay L, imax x (L.start + L.due.length), 1, 1⟩
  | 4 => ⟨lastDay L, L.start, 0, 1⟩
  | 5 => ⟨lastDay L, L.start, 7, 1⟩
  | 6 => ⟨lastDay L, L.start, 1, imax x 1099511627777⟩
  | 7 => ⟨lastDay L, L.start, 1, -1⟩
  | _ => ⟨lastDay L, L.start, 5, 1⟩
theorem lastDay_bd {L : Led} (hv : validB L = true) : 0 ≤ lastDay L ∧ lastDay L ≤ 65535 := by
  obtain ⟨_, _, _, h4, _⟩ := valid_here hv
  unfold lastDay
  cases h : L.posts.getLast? with
  | none => simp
  | some p =>
    have := of_decide_eq_true (h4 p (List.mem_of_getLast? h))
    dsimp only
    omega
theorem okP_one {L : Led} (hv : validB L = true) (p : Paid) : okP L [p] = (fitsB L.start L.due.length p && joinsB L.posts [p]) := by
  obtain ⟨_, _, _, _, h5⟩ := valid_here hv
  unfold okP
  rw [sorted_append, show sortedB dayCmp L.posts = true from h5]
  simp [sortedB]
theorem good_ok {L : Led} (hv : validB L = true) (hn : 0 < L.due.length) : okP L [goodOf L] = true := by
  have hb := lastDay_bd hv
  rw [okP_one hv, Bool.and_eq_true]
  refine ⟨decide_eq_true ⟨?_, ?_, ?_⟩, ?_⟩
  · show 0 ≤ lastDay L ∧ lastDay L < 65536; omega
  · show L.start ≤ L.start ∧ L.start < L.start + (L.due.length : Int); omega
  · simp [goodOf]
  · unfold joinsB
    show (match L.posts.getLast?, some (goodOf L) with | some x, some y => decide (x.day ≤ y.day) | _, _ => true) = true
    unfold goodOf lastDay
    cases h : L.posts.getLast? with
    | none => rfl
    | some p => simp
theorem bad_no {L : Led} (hv : validB L = true) {r : Nat} (hr : r < 9) (x : Int) : okP L [badOf L r x] = false := by
  have hb := lastDay_bd hv
  rw [okP_one hv]
  by_cases h1 : r = 1 ∧ L.posts ≠ []
  · obtain ⟨rfl, hp⟩ := h1
    have : joinsB L.posts [badOf L 1 x] = false := by
      unfold joinsB
      show (match L.posts.getLast?, some (badOf L 1 x) with | some x, some y => decide (x.day ≤ y.day) | _, _ => true) = false
      have hl : L.posts.getLast? = some (L.posts.getLast hp) := List.getLast?_eq_some_getLast hp
      have e : lastDay L = (L.posts.getLast hp).day := by unfold lastDay; rw [hl]
      rw [hl]
      show decide ((L.posts.getLast hp).day ≤ imin x (lastDay L - 1)) = false
      rw [decide_eq_false_iff_not, e]
      unfold imin
      split <;> omega
    rw [this, Bool.and_false]
  · have : fitsB L.start L.due.length (badOf L r x) = false := by
      unfold fitsB
      rw [decide_eq_false_iff_not]
      have hr' : r = 0 ∨ r = 1 ∨ r = 2 ∨ r = 3 ∨ r = 4 ∨ r = 5 ∨ r = 6 ∨ r = 7 ∨ r = 8 := by omega
      rcases hr' with rfl | rfl | rfl | rfl | rfl | rfl | rfl | rfl | rfl
      · simp only [badOf, imax]; split <;> omega
      · have hp : L.posts = [] := by
          cases h : L.posts with
          | nil => rfl
          | cons a l => exact absurd ⟨rfl, by rw [h]; simp⟩ h1
        have e : lastDay L = 0 := by unfold lastDay; rw [hp]; rfl
        simp only [badOf, imin, e]; split <;> omega
      · simp only [badOf, imin]; split <;> omega
      · simp only [badOf, imax]; split <;> omega
      · simp only [badOf]; omega
      · simp only [badOf]; omega
      · simp only [badOf, imax]; split <;> omega
      · simp only [badOf]; omega
      · simp only [badOf]; omega
    rw [this, Bool.false_and]
theorem plus_invalid {L : Led} {ps : List Paid} (h : okP L ps = false) : validB (L.plus ps) = false := by
  cases h2 : validB (L.plus ps)
  · rfl
  · exfalso
    obtain ⟨_, _, _, h4, h5⟩ := valid_here h2
    have : okP L ps = true := by
      unfold okP
      rw [Bool.and_eq_true]
      exact ⟨List.all_eq_true.2 fun p hp => h4 p (List.mem_append_right _ hp), h5⟩
    rw [this] at h
    cases h
theorem learn_invalid {L : Led} (h : validB L = false) (m d : Int) : learnR L m d = (Led.zero, 2) := by
  unfold learnR
  rw [if_pos (.inl h)]
theorem learn_amount (L : Led) (m d : Int) (h : d < 0 ∨ 1099511627776 < d) : learnR L m d = (Led.zero, 2) := by
  unfold learnR
  rw [if_pos (.inr (.inl (decide_eq_false (by omega))))]
theorem learn_month (L : Led) (d : Int) : learnR L (L.start + L.due.length + 1) d = (Led.zero, 2) := by
  unfold learnR
  rw [if_pos (.inr (.inr ⟨decide_eq_false (by omega), by omega⟩))]
theorem bad_wf {L : Led} (hv : validB L = true) {r : Nat} {x : Int} (x0 : -9223372036854775808 ≤ x) (x1 : x ≤ 9223372036854775807) : (badOf L r x).wf := by
  have hb := lastDay_bd hv
  obtain ⟨h1, _⟩ := valid_here hv
  unfold badOf
  split <;> (refine ⟨?_, ?_, ?_, ?_, ?_, ?_, ?_, ?_⟩ <;> simp only [imin, imax] <;> (first | omega | (split <;> omega)))
theorem good_wf {L : Led} (hv : validB L = true) : (goodOf L).wf := by
  have hb := lastDay_bd hv
  obtain ⟨h1, _⟩ := valid_here hv
  refine ⟨?_, ?_, ?_, ?_, ?_, ?_, ?_, ?_⟩ <;> simp only [goodOf] <;> omega
end Go.Proofs.Ytmaojcjnpblffaa
