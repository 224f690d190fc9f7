/- Plain laws of postings that are appended. -/
import Derived.Test.YtmaojcjnpblffaaLedDays
namespace Go.Proofs.Ytmaojcjnpblffaa
open Go.RowKit BigFrame
set_option linter.unusedVariables false

theorem sorted_append : ∀ a b : List Paid, sortedB dayCmp (a ++ b) = (sortedB dayCmp a && sortedB dayCmp b && joinsB a b)
  | [], b => by rw [joins_none (.inl rfl)]; simp [sortedB]
  | [x], [] => by rw [joins_none (.inr rfl)]; simp [sortedB]
  | [x], y :: r => by
    show (decide (0 ≤ dayCmp y x) && sortedB dayCmp (y :: r)) = (true && sortedB dayCmp (y :: r) && decide (x.day ≤ y.day))
    have : decide (0 ≤ dayCmp y x) = decide (x.day ≤ y.day) := decide_eq_decide.2 (by unfold dayCmp; omega)
    rw [this, Bool.true_and, Bool.and_comm]
  | x :: y :: r, b => by
    have ih := sorted_append (y :: r) b
    have hj : joinsB (x :: y :: r) b = joinsB (y :: r) b := by unfold joinsB; rw [List.getLast?_cons_cons]
    show (decide (0 ≤ dayCmp y x) && sortedB dayCmp ((y :: r) ++ b)) = (decide (0 ≤ dayCmp y x) && sortedB dayCmp (y :: r) && sortedB dayCmp b && joinsB (x :: y :: r) b)
    rw [ih, hj]
    simp only [Bool.and_assoc]
/-- The postings can be appended. -/
def okP (L : Led) (ps : List Paid) : Bool := ps.all (fitsB L.start L.due.length) && sortedB dayCmp (L.posts ++ ps)
def Led.plus (L : Led) (ps : List Paid) : Led := ⟨L.start, L.due, L.posts ++ ps⟩
theorem Led.plus_nil (L : Led) : L.plus [] = L := by unfold Led.plus; rw [List.append_nil]
theorem Led.plus_plus (L : Led) (a b : List Paid) : (L.plus a).plus b = L.plus (a ++ b) := by unfold Led.plus; rw [List.append_assoc]
theorem postR_ok {L : Led} (hv : validB L = true) {ps : List Paid} (hn : L.posts.length + ps.length ≤ 4000) : postR L ps = if okP L ps = true then (L.plus ps, 0) else (Led.zero, 2) := by
  obtain ⟨_, _, _, _, h5⟩ := valid_here hv
  have hs : okP L ps = ((ps.all (fitsB L.start L.due.length) && sortedB (fun a b => a.day - b.day) ps) && joinsB L.posts ps) := by
    unfold okP
    rw [sorted_append, show sortedB dayCmp L.posts = true from h5, Bool.true_and, Bool.and_assoc]
  unfold postR
  rw [hs]
  cases h1 : (ps.all (fitsB L.start L.due.length) && sortedB (fun a b => a.day - b.day) ps) <;> cases h2 : joinsB L.posts ps
  · rw [if_pos (.inr (.inl rfl)), if_neg (by simp)]
  · rw [if_pos (.inr (.inl rfl)), if_neg (by simp)]
  · rw [if_pos (.inr (.inr rfl)), if_neg (by simp)]
  · rw [if_neg (by simp [hv]), if_neg (by omega), if_pos (by simp)]
    rfl
theorem plus_valid {L : Led} (hv : validB L = true) {ps : List Paid} (hn : L.posts.length + ps.length ≤ 4000) (h : okP L ps = true) : validB (L.plus ps) = true := by
  obtain ⟨h1, h2, h3, h4, h5⟩ := valid_here hv
  unfold okP at h
  rw [Bool.and_eq_true] at h
  refine valid_mk h1 h2 (by show (L.posts ++ ps).length ≤ 4000; rw [List.length_append]; exact hn) (fun p hp => ?_) h.2
  rcases List.mem_append.1 (show p ∈ L.posts ++ ps from hp) with hp | hp
  · exact h4 p hp
  · exact List.all_eq_true.1 h.1 p hp
/-- Where the appending one by one stands behind the first k. -/
def oneBy (L : Led) (ps : List Paid) (k : Nat) : Led × Int := if okP L (ps.take k) = true then (L.plus (ps.take k), 0) else (Led.zero, 2)
theorem okP_start {L : Led} (hv : validB L = true) (ps : List Paid) : okP L (ps.take 0) = true := by
  obtain ⟨_, _, _, _, h5⟩ := valid_here hv
  unfold okP
  rw [List.take_zero, List.append_nil]
  rw [Bool.and_eq_true]
  exact ⟨rfl, h5⟩
theorem okP_next {L : Led} {ps : List Paid} {k : Nat} {p : Paid} (hp : ps[k]? = some p) (h : okP L (ps.take k) = true) : okP L (ps.take (k + 1)) = okP (L.plus (ps.take k)) [p] := by
  unfold okP at *
  rw [Bool.and_eq_true] at h
  rw [List.take_add_one, hp]
  show ((ps.take k ++ [p]).all (fitsB L.start L.due.length) && sortedB dayCmp (L.posts ++ (ps.take k ++ [p]))) = ([p].all (fitsB L.start L.due.length) && sortedB dayCmp ((L.posts ++ ps.take k) ++ [p]))
  rw [List.all_append, h.1, List.append_assoc, Bool.true_and]
theorem okP_stays {L : Led} {ps : List Paid} {k : Nat} (h : okP L (ps.take k) = false) : okP L (ps.take (k + 1)) = false := by
  cases h2 : okP L (ps.take (k + 1))
  · rfl
  · exfalso
    have : okP L (ps.take k) = true := by
      unfold okP at *
      rw [Bool.and_eq_true] at h2 ⊢
      have e : ps.take k = (ps.take (k + 1)).take k := by rw [List.take_take, show min k (k + 1) = k by omega]
      refine ⟨?_, ?_⟩
      · rw [e]; exact List.all_eq_true.2 fun x hx => List.all_eq_true.1 h2.1 x (List.mem_of_mem_take hx)
      · have := sorted_take h2.2 (L.posts.length + k)
        rw [List.take_length_add_append, ← e] at this
        exact this
    rw [this] at h
    cases h
theorem okP_fits {L : Led} {ps : List Paid} (h : okP L ps = true) : ∀ p ∈ ps, fitsB L.start L.due.length p = true := by
  unfold okP at h
  rw [Bool.and_eq_true] at h
  exact fun p hp => List.all_eq_true.1 h.1 p hp
theorem plus_posted (L : Led) (ps : List Paid) (m : Int) : postedV (L.plus ps) m = postedV L m + sumBy (princ m) ps := by
  unfold postedV sumBy Led.plus
  rw [List.map_append, List.sum_append]
theorem plus_open (L : Led) (ps : List Paid) (m : Int) : openV (L.plus ps) m = openV L m - sumBy (princ m) ps := by
  unfold openV
  rw [plus_posted]
  show L.due.getD (m - L.start).toNat 0 - _ = _
  omega
end Go.Proofs.Ytmaojcjnpblffaa
