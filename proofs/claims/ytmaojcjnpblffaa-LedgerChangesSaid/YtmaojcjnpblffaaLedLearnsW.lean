/- Plain laws of what is learned. -/
import Derived.Test.YtmaojcjnpblffaaLedM
namespace Go.Proofs.Ytmaojcjnpblffaa
open Go.RowKit BigFrame
set_option linter.unusedVariables false

theorem valid_mk {L : Led} (h1 : 0 ≤ L.start ∧ L.start ≤ 2400 - (L.due.length : Int) ∧ L.due.length ≤ 1200) (h2 : ∀ d ∈ L.due, 0 ≤ d ∧ d ≤ 1099511627776) (h3 : L.posts.length ≤ 4000) (h4 : ∀ p ∈ L.posts, fitsB L.start L.due.length p = true)
    (h5 : sortedB (fun a b => a.day - b.day) L.posts = true) : validB L = true := by
  have h2' : L.due.all amtB = true := List.all_eq_true.2 fun d hd => decide_eq_true (h2 d hd)
  unfold validB
  rw [decide_eq_true h1, decide_eq_true h3, h5, List.all_eq_true.2 h4, h2']
  rfl
theorem fits_more {s : Int} {k k' : Nat} (h : k ≤ k') {p : Paid} (hp : fitsB s k p = true) : fitsB s k' p = true := by
  unfold fitsB at *
  have := of_decide_eq_true hp
  exact decide_eq_true ⟨this.1, ⟨this.2.1.1, by have := this.2.1.2; omega⟩, this.2.2⟩
def learned (L : Led) (k : Nat) (d : Int) : Led := ⟨L.start, if k < L.due.length then L.due.set k d else L.due ++ [d], L.posts⟩
/-- The month with number k can be learned. -/
def CanLearn (L : Led) (k : Nat) : Prop := k < L.due.length ∨ (k = L.due.length ∧ L.start + (k : Int) < 2400)
theorem learned_len {L : Led} {k : Nat} {d : Int} (hk : k ≤ L.due.length) : (learned L k d).due.length = if k < L.due.length then L.due.length else L.due.length + 1 := by
  unfold learned
  dsimp only
  split <;> simp
theorem learned_valid {L : Led} (hv : validB L = true) {k : Nat} (hk : CanLearn L k) (hn : L.due.length ≤ 1000) {d : Int} (d0 : 0 ≤ d) (d1 : d ≤ 1099511627776) : validB (learned L k d) = true := by
  obtain ⟨h1, h2, h3, h4, h5⟩ := valid_here hv
  have hkl : k ≤ L.due.length := by rcases hk with h | h <;> omega
  have hlen := learned_len (d := d) hkl
  have hge : L.due.length ≤ (learned L k d).due.length := by rw [hlen]; split <;> omega
  refine valid_mk ⟨h1.1, ?_, ?_⟩ ?_ h3 (fun p hp => fits_more hge (h4 p hp)) h5
  · rw [hlen]
    have : (learned L k d).start = L.start := rfl
    rw [this]
    rcases hk with h | h <;> split <;> omega
  · rw [hlen]; split <;> omega
  · intro x hx
    unfold learned at hx
    dsimp only at hx
    split at hx
    · rcases List.mem_or_eq_of_mem_set hx with h | h
      · exact h2 x h
      · subst h; omega
    · rcases List.mem_append.1 hx with h | h
      · exact h2 x h
      · simp at h; subst h; omega
theorem learn_ok {L : Led} (hv : validB L = true) {k : Nat} (hk : CanLearn L k) (hn : L.due.length ≤ 1000) {d : Int} (d0 : 0 ≤ d) (d1 : d ≤ 1099511627776) : learnR L (L.start + k) d = (learned L k d, 0) := by
  have ha : amtB d = true := decide_eq_true ⟨d0, d1⟩
  unfold learnR
  rcases hk with h | ⟨h, h'⟩
  · rw [if_neg (by rw [hv, ha, has_at h]; simp), if_neg (by omega), if_neg (by omega)]
    unfold learned
    rw [if_pos h, show (L.start + (k : Int) - L.start).toNat = k by omega]
  · rw [if_neg (by rw [hv, ha]; simp; omega), if_neg (by omega), if_pos (by omega)]
    unfold learned
    rw [if_neg (by omega)]
theorem learn_twice {L : Led} {k : Nat} (hk : k ≤ L.due.length) {d d' : Int} : learned (learned L k d) k d' = learned L k d' := by
  have hlen := learned_len (d := d) hk
  unfold learned at hlen ⊢
  dsimp only at hlen ⊢
  rw [hlen]
  by_cases h : k < L.due.length
  · rw [if_pos h, if_pos h, if_pos h, if_pos h]; simp
  · have : k = L.due.length := by omega
    subst this
    simp
theorem can_again {L : Led} {k : Nat} (hk : CanLearn L k) {d : Int} : CanLearn (learned L k d) k := by
  have hkl : k ≤ L.due.length := by rcases hk with h | h <;> omega
  have hlen := learned_len (d := d) hkl
  left
  rw [hlen]
  split <;> omega
theorem learned_at {L : Led} {k : Nat} (hk : k ≤ L.due.length) {d : Int} (i : Nat) : (learned L k d).due.getD i 0 = if i = k then d else L.due.getD i 0 := by
  unfold learned
  dsimp only
  simp only [List.getD_eq_getElem?_getD]
  by_cases h : k < L.due.length
  · rw [if_pos h]
    by_cases h2 : i = k
    · rw [if_pos h2, h2, List.getElem?_set_self h]; rfl
    · rw [if_neg h2, List.getElem?_set_ne (by omega)]
  · have : k = L.due.length := by omega
    subst this
    rw [if_neg h]
    by_cases h2 : i = L.due.length
    · rw [if_pos h2, h2]; simp
    · rw [if_neg h2]
      rcases (show i < L.due.length ∨ L.due.length < i by omega) with h3 | h3
      · rw [List.getElem?_append_left h3]
      · rw [List.getElem?_eq_none (by simp; omega), List.getElem?_eq_none (by omega)]
theorem learned_open {L : Led} {k : Nat} (hk : k ≤ L.due.length) {d : Int} (i : Nat) : openV (learned L k d) (L.start + i) = (if i = k then d else L.due.getD i 0) - postedV L (L.start + i) := by
  have := openV_at (learned L k d) i
  rw [learned_at hk] at this
  exact this
theorem posted_next {L : Led} (hv : validB L = true) : postedV L (L.start + L.due.length) = 0 := by
  obtain ⟨_, _, _, h4, _⟩ := valid_here hv
  unfold postedV sumBy
  have : L.posts.map (princ (L.start + L.due.length)) = L.posts.map fun _ => 0 := List.map_congr_left fun p hp => by
    have := of_decide_eq_true (h4 p hp)
    unfold princ
    exact if_pos (.inl (by omega))
  rw [this]
  have hz : ∀ l : List Paid, (l.map fun _ => (0 : Int)).sum = 0 := fun l => by
    induction l with
    | nil => rfl
    | cons a l ih => simp only [List.map_cons, List.sum_cons] at *; omega
  exact hz _
theorem openR_next {L : Led} (hv : validB L = true) : openR L (L.start + L.due.length) = (0, 6) := by
  unfold openR
  rw [if_neg (by simp [hv]), if_pos (show hasB L.start L.due.length (L.start + L.due.length) = false from decide_eq_false (by omega))]
theorem learn_full {L : Led} (hv : validB L = true) (hn : L.due.length ≤ 1000) (h : 2400 ≤ L.start + (L.due.length : Int)) {d : Int} (d0 : 0 ≤ d) (d1 : d ≤ 1099511627776) : learnR L (L.start + L.due.length) d = (Led.zero, 5) := by
  unfold learnR
  rw [if_neg (by rw [hv, show amtB d = true from decide_eq_true ⟨d0, d1⟩]; simp), if_pos ⟨rfl, .inr h⟩]
end Go.Proofs.Ytmaojcjnpblffaa
