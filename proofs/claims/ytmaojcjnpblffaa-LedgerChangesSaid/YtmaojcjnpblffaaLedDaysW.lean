/- Plain laws of days: the postings up to a day are the first ones. -/
import Derived.Test.YtmaojcjnpblffaaLedLearns
namespace Go.Proofs.Ytmaojcjnpblffaa
open Go.RowKit BigFrame
set_option linter.unusedVariables false

def upTo (d : Int) (l : List Paid) : List Paid := l.filter fun x => !decide (d < x.day)
abbrev dayCmp : Paid → Paid → Int := fun a b => a.day - b.day
theorem sorted_head {x : Paid} : ∀ {l : List Paid}, sortedB dayCmp (x :: l) = true → ∀ y ∈ l, x.day ≤ y.day
  | [], _, y, hy => by cases hy
  | z :: r, h, y, hy => by
    simp only [sortedB, Bool.and_eq_true, decide_eq_true_eq] at h
    have h1 : x.day ≤ z.day := by have := h.1; unfold dayCmp at this; omega
    rcases List.mem_cons.1 hy with rfl | hy
    · exact h1
    · have := sorted_head h.2 y hy; omega
theorem sorted_tail {x : Paid} {l : List Paid} (h : sortedB dayCmp (x :: l) = true) : sortedB dayCmp l = true := by
  cases l with
  | nil => rfl
  | cons z r => simp only [sortedB, Bool.and_eq_true] at h; exact h.2
theorem cut_days (d : Int) : ∀ l : List Paid, sortedB dayCmp l = true → ∃ q, q ≤ l.length ∧ upTo d l = l.take q ∧ (∀ (i : Nat) x, i < q → l[i]? = some x → x.day ≤ d) ∧ (∀ x, l[q]? = some x → d < x.day)
  | [], _ => ⟨0, by simp, rfl, by simp, by simp⟩
  | x :: l, h => by
    by_cases hx : d < x.day
    · refine ⟨0, by simp, ?_, fun i y hi => by omega, fun y hy => ?_⟩
      · unfold upTo
        rw [List.take_zero, List.filter_eq_nil_iff]
        intro y hy
        have : x.day ≤ y.day := by
          rcases List.mem_cons.1 hy with rfl | hy
          · exact Int.le_refl _
          · exact sorted_head h y hy
        simp; omega
      · simp at hy; subst hy; exact hx
    · obtain ⟨q, h1, h2, h3, h4⟩ := cut_days d l (sorted_tail h)
      refine ⟨q + 1, by simpa using h1, ?_, fun i y hi hy => ?_, fun y hy => h4 y (by simpa using hy)⟩
      · unfold upTo at *
        rw [List.filter_cons_of_pos (by simp; omega), h2, List.take_succ_cons]
      · cases i with
        | zero => simp at hy; subst hy; omega
        | succ i => exact h3 i y (by omega) (by simpa using hy)
theorem upTo_twice {lo hi : Int} (h : lo ≤ hi) (l : List Paid) : upTo lo (upTo hi l) = upTo lo l := by
  unfold upTo
  rw [List.filter_filter]
  refine List.filter_congr fun x _ => ?_
  by_cases h1 : lo < x.day
  · simp [h1]
  · have h2 : ¬ hi < x.day := by omega
    simp [h1, h2]
theorem sorted_take {l : List Paid} (h : sortedB dayCmp l = true) (q : Nat) : sortedB dayCmp (l.take q) = true := by
  rw [sortedB_iff] at *
  intro j x y hx hy
  rw [List.getElem?_take] at hx hy
  split at hx
  · split at hy
    · exact h j x y hx hy
    · cases hy
  · cases hx
theorem sorted_drop {l : List Paid} (h : sortedB dayCmp l = true) (q : Nat) : sortedB dayCmp (l.drop q) = true := by
  rw [sortedB_iff] at *
  intro j x y hx hy
  rw [List.getElem?_drop] at hx hy
  exact h (q + j) x y hx hy
theorem joins_cut {l : List Paid} (h : sortedB dayCmp l = true) (q : Nat) : joinsB (l.take q) (l.drop q) = true := by
  by_cases hq : q = 0
  · subst hq; exact joins_none (.inl (by simp))
  · by_cases hl : q < l.length
    · have e : l[q - 1]? = some (l[q - 1]'(by omega)) := List.getElem?_eq_getElem _
      have e2 : l[q]? = some (l[q]'(by omega)) := List.getElem?_eq_getElem _
      have hx : (l.take q)[q - 1]? = some (l[q - 1]'(by omega)) := by rw [List.getElem?_take, if_pos (by omega), e]
      have hy : (l.drop q)[0]? = some (l[q]'(by omega)) := by rw [List.getElem?_drop, Nat.add_zero, e2]
      rw [joins_last (q := q - 1) (by rw [List.length_take]; omega) hx hy]
      have := (sortedB_iff dayCmp l).1 h (q - 1) _ _ e (by rw [show q - 1 + 1 = q by omega]; exact e2)
      unfold dayCmp at this
      exact decide_eq_true (by omega)
    · exact joins_none (.inr (List.drop_eq_nil_of_le (by omega)))

/-- The ledger of a day. -/
def Led.of (L : Led) (d : Int) : Led := ⟨L.start, L.due, upTo d L.posts⟩
theorem Led.of_valid {L : Led} (hv : validB L = true) (d : Int) : validB (L.of d) = true := by
  obtain ⟨h1, h2, h3, h4, h5⟩ := valid_here hv
  obtain ⟨q, _, e, _⟩ := cut_days d L.posts h5
  refine valid_mk h1 h2 ?_ ?_ ?_
  · show (upTo d L.posts).length ≤ 4000
    rw [e, List.length_take]; omega
  · intro p hp
    exact h4 p (List.mem_filter.1 (show p ∈ upTo d L.posts from hp)).1
  · show sortedB dayCmp (upTo d L.posts) = true
    rw [e]; exact sorted_take h5 q
theorem at_ok {L : Led} (hv : validB L = true) (d : Int) : atR L d = (L.of d, 0) := by unfold atR; rw [if_neg (by simp [hv])]; rfl
theorem of_twice {L : Led} {lo hi : Int} (h : lo ≤ hi) : (L.of hi).of lo = L.of lo := by
  unfold Led.of
  rw [upTo_twice h]
theorem post_back {L : Led} (hv : validB L = true) {d : Int} {q : Nat} (hq : upTo d L.posts = L.posts.take q) : postR (L.of d) (L.posts.drop q) = (L, 0) := by
  obtain ⟨h1, h2, h3, h4, h5⟩ := valid_here hv
  have a1 : ((L.posts.drop q).all (fitsB (L.of d).start (L.of d).due.length) && sortedB (fun a b => a.day - b.day) (L.posts.drop q)) = true := by
    have e1 : sortedB (fun a b => a.day - b.day) (L.posts.drop q) = true := sorted_drop h5 q
    have e2 : (L.posts.drop q).all (fitsB (L.of d).start (L.of d).due.length) = true := List.all_eq_true.2 fun p hp => h4 p (List.mem_of_mem_drop hp)
    rw [e1, e2]; rfl
  have a2 : joinsB (L.of d).posts (L.posts.drop q) = true := by
    show joinsB (upTo d L.posts) _ = true
    rw [hq]; exact joins_cut h5 q
  have a3 : (L.of d).posts ++ L.posts.drop q = L.posts := by
    show upTo d L.posts ++ _ = _
    rw [hq, List.take_append_drop]
  have a4 : ¬ 4000 < (L.of d).posts.length + (L.posts.drop q).length := by rw [← List.length_append, a3]; omega
  unfold postR
  rw [if_neg (by rw [Led.of_valid hv, a1, a2]; simp), if_neg a4, a3]
  rfl
end Go.Proofs.Ytmaojcjnpblffaa
