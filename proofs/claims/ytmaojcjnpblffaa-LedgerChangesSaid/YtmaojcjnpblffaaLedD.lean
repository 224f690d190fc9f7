/- The ledger's validity; what was posted for a month. -/
import Derived.Test.YtmaojcjnpblffaaLedC
namespace Go.Proofs.Ytmaojcjnpblffaa
open Go.RowKit BigFrame

def validB (L : Led) : Bool :=
  decide (0 ≤ L.start ∧ L.start ≤ 2400 - (L.due.length : Int) ∧ L.due.length ≤ 1200) && L.due.all amtB && decide (L.posts.length ≤ 4000) && L.posts.all (fitsB L.start L.due.length) && sortedB (fun a b => a.day - b.day) L.posts

/-- A ledger value reads as L. -/
structure LedIn (w : World) (B : Nat) (A : Option Addr) (n : Nat) (A' : Option Addr) (n' : Nat) (L : Led) : Prop where
  due : Ints w B A n L.due
  posts : Posts w B A' n' L.posts
  wfp : ∀ p ∈ L.posts, p.wf
  wfd : ∀ d ∈ L.due, -9223372036854775808 ≤ d ∧ d ≤ 9223372036854775807
  s0 : -9223372036854775808 ≤ L.start
  s1 : L.start ≤ 9223372036854775807
  n0 : n ≤ 9223372036854775807
  n1 : n' ≤ 9223372036854775807
theorem LedIn.later {w w' : World} {B B0 n n' : Nat} {A A' : Option Addr} {L : Led} (h : LedIn w B A n A' n' L) (hB : B ≤ B0) (hb : Below B0 w w') : LedIn w' B A n A' n' L :=
  ⟨h.due.later hB hb, h.posts.later hB hb, h.wfp, h.wfd, h.s0, h.s1, h.n0, h.n1⟩
theorem LedIn.more {w : World} {B B' n n' : Nat} {A A' : Option Addr} {L : Led} (h : LedIn w B A n A' n' L) (hB : B ≤ B') : LedIn w B' A n A' n' L :=
  ⟨h.due.more hB, h.posts.more hB, h.wfp, h.wfd, h.s0, h.s1, h.n0, h.n1⟩
/-- A ledger of an earlier world, in a later one. -/
theorem LedIn.to {w w' : World} {n n' : Nat} {A A' : Option Addr} {L : Led} (h : LedIn w w.heap.size A n A' n' L) (hb : Below w.heap.size w w') : LedIn w' w'.heap.size A n A' n' L :=
  (h.later (Nat.le_refl _) hb).more hb.size

theorem ret_boolw {P : Program} {f : FuncId} {args : Array Value} {w : World} {a b : Bool} (h : a = b) {B : Nat} (hc : Calls P f args w fun e w' => e = .returned (.bool a) ∧ Below B w w') : Calls P f args w fun e w' => e = .returned (.bool b) ∧ Below B w w' := by
  subst h; exact hc

set_option maxHeartbeats 1000000 in
theorem valid_any (A : Option Addr) (n c : Nat) (A' : Option Addr) (n' c' : Nat) (L : Led) (w : World) (h : LedIn w w.heap.size A n A' n' L) :
    Calls Try.prog 15 #[.agg #[.int .i64 L.start, .slice A n c, .slice A' n' c']] w fun e w' => e = .returned (.bool (validB L)) ∧ Below w.heap.size w w' := by
  have e1 : Enters_ Try.prog 37 := enters_ Try.func37 (by kernel_rfl) rfl
  obtain ⟨hd, hp, hwf, hwd, s0, s1, n0, n1⟩ := h
  obtain ⟨s, due, posts⟩ := L
  dsimp only at *
  have K1 : n ≤ 1200 → ∀ W, Below w.heap.size w W →
      Hid (Calls Try.prog 36 #[.slice A n c, .func (.func 37) #[] #[]] W fun e w' => e = .returned (.bool (!due.all amtB)) ∧ Below W.heap.size W w') := by
    intro hn W hW
    refine ret_boolw (List.not_all_eq_any_not).symm (has_int _ _ A n c due (fun p => !amtB p) W e1 ((hd.later (Nat.le_refl _) hW).more hW.size) (by omega) fun x W' _ _ => ?_)
    exact (dueclosure x W').mono fun e w' ⟨he, hw⟩ => ⟨he, by subst hw; exact Below.refl _ _⟩
  have K2 : 0 ≤ s → s ≤ 2400 → n ≤ 1200 → n' ≤ 4000 → ∀ W, Below w.heap.size w W →
      Hid (Calls Try.prog 38 #[.agg #[.int .i64 s, .slice A n c, .slice A' n' c'], .slice A' n' c'] W fun e w' => e = .returned (.bool (posts.all (fitsB s n) && sortedB (fun a b => a.day - b.day) posts)) ∧ Below W.heap.size W w') := by
    intro h0 h1 h2 h3 W hW
    exact posts_any s A A' n c n' c' A' n' c' posts W h0 (by omega) (by omega) ((hp.later (Nat.le_refl _) hW).more hW.size) (by omega) hwf
  have hlen := hd.len
  have hlen' := hp.len
  have hv : validB ⟨s, due, posts⟩ = (decide (0 ≤ s ∧ s ≤ 2400 - (n : Int) ∧ n ≤ 1200) && due.all amtB && decide (n' ≤ 4000) && (posts.all (fitsB s n) && sortedB (fun a b => a.day - b.day) posts)) := by
    unfold validB; dsimp only; rw [hlen, hlen', Bool.and_assoc (_ && _)]
  rw [hv]
  clear hv hlen hlen' e1 hd hp hwf hwd
  have K1' := Lib.hid K1
  have K2' := Lib.hid K2
  clear K1 K2
  generalize (posts.all (fitsB s n) && sortedB (fun a b => a.day - b.day) posts) = r at *
  generalize hq : due.all amtB = q at *
  by_cases h1 : 0 ≤ s ∧ s ≤ 2400 - (n : Int) ∧ n ≤ 1200
  · obtain ⟨h1, h2, h3⟩ := h1
    have h2' : (n : Int) ≤ 2400 - s := by omega
    cases q
    · go_enter Try.func15, Try.ntmps15
      go_wp2_with fail
      refine (K1'.out h3 _ (by go_grown)).out.mono ?_
      rintro e w1 ⟨rfl, hb1⟩
      have hB1 : Below w.heap.size w w1 := after (by go_grown) hb1
      clear hb1
      go_wp2_with fail
      go_ret
      exact ⟨ret_bool (by simp), hB1⟩
    · by_cases h4 : n' ≤ 4000
      all_goals
        go_enter Try.func15, Try.ntmps15
        go_wp2_with fail
        refine (K1'.out h3 _ (by go_grown)).out.mono ?_
        rintro e w1 ⟨rfl, hb1⟩
        have hB1 : Below w.heap.size w w1 := after (by go_grown) hb1
        obtain ⟨hc1, _⟩ := bcell hb1
        clear hb1
        go_wp2_with fail
      · refine (K2'.out h1 (by omega) h3 h4 _ hB1).out.mono ?_
        rintro e w2 ⟨rfl, hb2⟩
        have hB2 : Below w.heap.size w w2 := after (by go_grown) hb2
        clear hb2 hc1
        go_wp2
        go_ret
        exact ⟨ret_bool (by simp [h1, h2, h3, h4]), hB2⟩
      · go_ret
        exact ⟨ret_bool (by simp), hB1⟩
  · have hz : decide (0 ≤ s ∧ s ≤ 2400 - (n : Int) ∧ n ≤ 1200) = false := decide_eq_false h1
    rw [hz]
    clear K1' K2' hz
    go_enter Try.func15, Try.ntmps15
    go_wp2_with fail
    all_goals
      go_ret
      exact ⟨ret_bool (by simp), by go_grown⟩

theorem valid_here {L : Led} (h : validB L = true) : (0 ≤ L.start ∧ L.start ≤ 2400 - (L.due.length : Int) ∧ L.due.length ≤ 1200) ∧ (∀ d ∈ L.due, 0 ≤ d ∧ d ≤ 1099511627776) ∧ L.posts.length ≤ 4000 ∧ (∀ p ∈ L.posts, fitsB L.start L.due.length p = true) ∧ sortedB (fun a b => a.day - b.day) L.posts = true := by
  unfold validB at h
  simp only [Bool.and_eq_true, decide_eq_true_eq, List.all_eq_true] at h
  obtain ⟨⟨⟨⟨h1, h2⟩, h3⟩, h4⟩, h5⟩ := h
  exact ⟨h1, fun d hd => of_decide_eq_true (h2 d hd), h3, h4, h5⟩

def sumBy {α : Type} (f : α → Int) (l : List α) : Int := (l.map f).sum
theorem sumBy_take {α : Type} (f : α → Int) {l : List α} {k : Nat} {x : α} (hx : l[k]? = some x) : sumBy f (l.take (k + 1)) = sumBy f (l.take k) + f x := by
  unfold sumBy
  rw [List.take_add_one, hx]
  simp [List.sum_append]
theorem sumBy_bound {α : Type} (f : α → Int) (b : Int) (hb : 0 ≤ b) : ∀ l : List α, (∀ x ∈ l, -b ≤ f x ∧ f x ≤ b) → -(b * l.length) ≤ sumBy f l ∧ sumBy f l ≤ b * l.length
  | [], _ => by simp [sumBy]
  | x :: l, h => by
    have h1 := h x (by simp)
    have h2 := sumBy_bound f b hb l (fun y hy => h y (by simp [hy]))
    simp only [sumBy, List.map_cons, List.sum_cons, List.length_cons, Int.natCast_add, Int.mul_add] at *
    omega

set_option maxHeartbeats 400000 in
theorem sum_paid (g : FuncId) (caps : Array Value) (A : Option Addr) (n c : Nat) (l : List Paid) (vf : Paid → Int) (w : World) (he : Enters_ Try.prog g) (hr : Posts w w.heap.size A n l) (hn : n ≤ 1000000)
    (hbd : ∀ x ∈ l, -1099511627776 ≤ vf x ∧ vf x ≤ 1099511627776)
    (hf : ∀ x W, x ∈ l → Below w.heap.size w W → Calls Try.prog g (#[x.val] ++ caps) W fun e W' => e = .returned (.int .i64 (vf x)) ∧ Below W.heap.size W W') :
    Calls Try.prog 39 #[.slice A n c, .func (.func g) #[] caps] w fun e w' => e = .returned (.int .i64 (sumBy vf l)) ∧ Below w.heap.size w w' := by
  go_enter Try.func39, Try.ntmps39
  go_wp2
  go_loopw [5, 10] (fun t i wr => ∃ k : Nat, k ≤ n ∧ i = .int .i64 k ∧ Below w.heap.size w wr ∧ t = .int .i64 (sumBy vf (l.take k))) (fun _ i _ => n - (intOf i).toNat)
  case atStart => exact ⟨0, Nat.zero_le _, rfl, Below.refl _ _, by simp [sumBy]⟩
  case round =>
    obtain ⟨k, hk, rfl, hb, rfl⟩ := hrel
    have hbt := sumBy_bound vf 1099511627776 (by omega) (l.take k) (fun x hx => hbd x (List.mem_of_mem_take hx))
    have hlt' : (l.take k).length ≤ k := List.length_take_le _ _
    by_cases hlt : k < n
    · obtain ⟨x, b, o, hx, rfl, hbB, c0, c1, c2, c3⟩ := (hr.later (Nat.le_refl _) hb).at_ hlt
      have hsz := hb.size
      have H := fun W => Lib.hid (hf x W (List.mem_of_getElem? hx))
      have hs := sumBy_take vf hx
      have hvx := hbd x (List.mem_of_getElem? hx)
      generalize sumBy vf (l.take k) = t at *
      generalize hv : vf x = v at *
      have HS := Lib.hid hs
      have he' := he.out
      have b1 : -1099511627776000000 ≤ t := by omega
      have b2 : t ≤ 1099511627776000000 := by omega
      clear hr hf hx hs he hbd hbt hlt'
      go_wp2_with fail
      refine ((H _).out (by go_grown)).mono ?_
      rintro e w' ⟨rfl, hb'⟩
      have hbb : Below w.heap.size w w' := after (by go_grown) hb'
      clear H c0 c1 c2 c3 he' hb' hv
      go_wp2
      go_roundw
      case rel => exact ⟨k + 1, by omega, by go_num, hbb, by rw [HS.out]⟩
      case measure => simp [intOf]; omega
    · have Hr := Lib.hid hr
      clear hr hf hbd hbt he
      go_wp2
      go_ret
      exact ⟨ret_int (by rw [List.take_of_length_le (by have := Hr.out.len; omega)]), hb⟩

def princ (m : Int) (p : Paid) : Int := if p.month ≠ m ∨ p.kind = 3 then 0 else p.amount
theorem princ_bound {s : Int} {k : Nat} {l : List Paid} (h : ∀ p ∈ l, fitsB s k p = true) (m : Int) : ∀ x ∈ l, -1099511627776 ≤ princ m x ∧ princ m x ≤ 1099511627776 := by
  intro x hx
  have := of_decide_eq_true (h x hx)
  unfold princ
  split <;> omega

set_option maxHeartbeats 400000 in
theorem princ_call (m : Int) (b : Nat) (p : Paid) (w : World) (hm : w.cell? ⟨b, 0, none⟩ = some (.int .i64 m)) (hb : b < w.heap.size) :
    Calls Try.prog 53 #[p.val, .pointer (some ⟨b, 0, none⟩)] w fun e w' => e = .returned (.int .i64 (princ m p)) ∧ Below w.heap.size w w' := by
  obtain ⟨day, month, kind, amount⟩ := p
  unfold Paid.val
  go_enter Try.func53, Try.ntmps53
  go_wp2
  all_goals
    go_ret
    refine ⟨ret_int ?_, by go_grown⟩
    try simp only [beq_iff_eq, beq_eq_false_iff_ne, ne_eq] at *
    unfold princ
    dsimp only
    first | rw [if_pos (by omega)] | rw [if_neg (by omega)]

set_option maxHeartbeats 400000 in
theorem principal_any (m : Int) (w : World) : Calls Try.prog 40 #[.int .i64 m] w fun e w' => e = .returned (.func (.func 53) #[] #[.pointer (some ⟨w.heap.size, 0, none⟩)]) ∧ w.alloc (.cells #[.int .i64 m] 3) = w' := by
  go_enter Try.func40, Try.ntmps40
  go_wp2
  go_ret
  exact ⟨rfl, rfl⟩

/-- The sum of the principal of one month, by a closure over a block that holds the month. -/
theorem sum_princ (m : Int) (A : Option Addr) (n c : Nat) (l : List Paid) (s : Int) (q : Nat) (b : Nat) (w : World) (hr : Posts w w.heap.size A n l) (hn : n ≤ 4000) (hfit : ∀ p ∈ l, fitsB s q p = true)
    (hm : w.cell? ⟨b, 0, none⟩ = some (.int .i64 m)) (hb : b < w.heap.size) :
    Calls Try.prog 39 #[.slice A n c, .func (.func 53) #[] #[.pointer (some ⟨b, 0, none⟩)]] w fun e w' => e = .returned (.int .i64 (sumBy (princ m) l)) ∧ Below w.heap.size w w' := by
  refine sum_paid _ _ A n c l (princ m) w (enters_ Try.func53 (by kernel_rfl) rfl) hr (by omega) (princ_bound hfit m) fun x W _ hW => ?_
  obtain ⟨hc, _⟩ := bcell hW
  exact princ_call m b x W (by rw [hc _ _ hb]; exact hm) (Nat.lt_of_lt_of_le hb hW.size)
end Go.Proofs.Ytmaojcjnpblffaa
