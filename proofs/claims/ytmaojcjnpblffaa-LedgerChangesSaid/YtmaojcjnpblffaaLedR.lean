/- The reference's Has, Right, Posts and Valid. -/
import Derived.Test.YtmaojcjnpblffaaLedCopy
namespace Go.Proofs.Ytmaojcjnpblffaa
open Go.RowKit BigFrame
set_option linter.unusedVariables false

set_option maxHeartbeats 1000000 in
theorem rhas_any (s : Int) (A A' : Option Addr) (n c n' c' : Nat) (m : Int) (w : World) (hs : 0 ≤ s) (hs' : s ≤ 1000000) (hn : n ≤ 1000000) :
    Calls Try.prog 24 #[.agg #[.int .i64 s, .slice A n c, .slice A' n' c'], .int .i64 m] w fun e w' => e = .returned (.bool (hasB s n m)) ∧ Below w.heap.size w w' := by
  go_enter Try.func24, Try.ntmps24
  go_wp2
  go_loop [5] (fun i => ∃ k : Nat, k ≤ n ∧ i = .int .i64 k ∧ Hid (∀ j : Nat, j < k → s + (j : Int) ≠ m)) (fun i => n - (intOf i).toNat)
  case atStart => exact ⟨0, Nat.zero_le _, rfl, Lib.hid fun j h => absurd h (by omega)⟩
  case round =>
    obtain ⟨k, hk, rfl, HK⟩ := hrel
    by_cases hlt : k < n
    · by_cases he : s + (k : Int) = m
      · have t1 : (s + (k : Int) == m) = true := by rw [beq_iff_eq]; exact he
        have HE := Lib.hid he
        clear he
        go_wp2
        go_ret
        exact ⟨ret_bool (true_dec (by have := HE.out; omega)), by go_grown⟩
      · have t1 : (s + (k : Int) == m) = false := by rw [beq_eq_false_iff_ne]; exact he
        have HE := Lib.hid he
        clear he
        go_wp2
        go_round
        case rel => exact ⟨k + 1, by omega, by go_num, Lib.hid fun j hj => by
          by_cases h : j = k
          · subst h; exact HE.out
          · exact HK.out j (by omega)⟩
        case measure => simp [intOf]; omega
    · go_wp2
      go_ret
      refine ⟨ret_bool (false_dec fun h => ?_), by go_grown⟩
      exact HK.out (m - s).toNat (by omega) (by omega)

set_option maxHeartbeats 2000000 in
theorem rright_any (s : Int) (A A' : Option Addr) (n c n' c' : Nat) (p : Paid) (w : World) (hs : 0 ≤ s) (hs' : s ≤ 1000000) (hn : n ≤ 1000000) (hp : p.wf) :
    Calls Try.prog 54 #[.agg #[.int .i64 s, .slice A n c, .slice A' n' c'], p.val] w fun e w' => e = .returned (.bool (fitsB s n p)) ∧ Below w.heap.size w w' := by
  obtain ⟨day, month, kind, amount⟩ := p
  unfold Paid.val
  have hk0 : 0 ≤ kind := hp.k0
  have hk1 : kind ≤ 255 := hp.k1
  clear hp
  cases hh : hasB s n month
  all_goals
    go_enter Try.func54, Try.ntmps54
    go_wp2_with (go_at_call 24; refine (rhas_any _ _ _ _ _ _ _ _ _ (by omega) (by omega) (by omega)).mono ?_; rintro e w1 ⟨rfl, hb1⟩; have hB1 : Below w.heap.size w w1 := after (by go_grown) hb1; obtain ⟨hc1, hf1⟩ := bcell hb1)
    all_goals
      go_ret
      refine ⟨ret_bool ?_, by go_grown⟩
      simp only [hasB, decide_eq_true_eq, decide_eq_false_iff_not] at hh
      try simp only [beq_iff_eq, beq_eq_false_iff_ne, ne_eq] at *
      unfold fitsB
      dsimp only
      first | exact dec_of (by omega) | exact false_dec (by omega) | exact true_dec (by omega)

def okTo (s : Int) (n : Nat) (l : List Paid) (k : Nat) : Prop := (∀ (j : Nat) x, j < k → l[j]? = some x → fitsB s n x = true) ∧ ∀ (j : Nat) x y, j + 1 < k → l[j]? = some x → l[j + 1]? = some y → x.day ≤ y.day
theorem okTo_full {s : Int} {n : Nat} {l : List Paid} (h : okTo s n l l.length) : (l.all (fitsB s n) && sortedB (fun a b => a.day - b.day) l) = true := by
  rw [Bool.and_eq_true]
  refine ⟨List.all_eq_true.2 fun x hx => ?_, (sortedB_iff _ l).2 fun j x y hx hy => ?_⟩
  · obtain ⟨j, hj, e⟩ := List.getElem_of_mem hx
    exact h.1 j x hj (by rw [List.getElem?_eq_getElem hj, e])
  · have := h.2 j x y (List.getElem?_eq_some_iff.1 hy).1 hx hy
    omega
theorem not_fit {s : Int} {n : Nat} {l : List Paid} {k : Nat} {x : Paid} (hx : l[k]? = some x) (h : fitsB s n x = false) : (l.all (fitsB s n) && sortedB (fun a b => a.day - b.day) l) = false := by
  rw [Bool.and_eq_false_iff]
  refine .inl (Bool.eq_false_iff.2 fun h0 => ?_)
  have := List.all_eq_true.1 h0 x (List.mem_of_getElem? hx)
  rw [h] at this
  cases this
theorem not_sorted {s : Int} {n : Nat} {l : List Paid} {k : Nat} {x y : Paid} (hx : l[k]? = some x) (hy : l[k + 1]? = some y) (h : y.day < x.day) : (l.all (fitsB s n) && sortedB (fun a b => a.day - b.day) l) = false := by
  rw [Bool.and_eq_false_iff]
  refine .inr (Bool.eq_false_iff.2 fun h0 => ?_)
  have := (sortedB_iff _ l).1 h0 k x y hx hy
  omega
theorem okTo_first {s : Int} {n : Nat} {l : List Paid} {x : Paid} (hx : l[0]? = some x) (h : fitsB s n x = true) : okTo s n l 1 := by
  refine ⟨fun j y hj hy => ?_, fun j y z hj => absurd hj (by omega)⟩
  obtain rfl : j = 0 := by omega
  rw [hx] at hy; cases hy; exact h
theorem okTo_next {s : Int} {n : Nat} {l : List Paid} {k : Nat} {x y : Paid} (h : okTo s n l (k + 1)) (hx : l[k]? = some x) (hy : l[k + 1]? = some y) (hf : fitsB s n y = true) (hd : x.day ≤ y.day) : okTo s n l (k + 2) := by
  refine ⟨fun j z hj hz => ?_, fun j z u hj hz hu => ?_⟩
  · by_cases e : j = k + 1
    · subst e; rw [hy] at hz; cases hz; exact hf
    · exact h.1 j z (by omega) hz
  · by_cases e : j = k
    · subst e; rw [hx] at hz; cases hz; rw [hy] at hu; cases hu; exact hd
    · exact h.2 j z u (by omega) hz hu

set_option maxRecDepth 100000 in
set_option maxHeartbeats 2000000 in
theorem rposts_any (s : Int) (A A' : Option Addr) (n c n' c' : Nat) (B : Option Addr) (k d : Nat) (l : List Paid) (w : World) (hs : 0 ≤ s) (hs' : s ≤ 1000000) (hn : n ≤ 1000000) (hl : Posts w w.heap.size B k l) (hk : k ≤ 1000000) (hwf : ∀ p ∈ l, p.wf) :
    Calls Try.prog 41 #[.agg #[.int .i64 s, .slice A n c, .slice A' n' c'], .slice B k d] w fun e w' => e = .returned (.bool (l.all (fitsB s n) && sortedB (fun a b => a.day - b.day) l)) ∧ Below w.heap.size w w' := by
  have hlen := Lib.hid hl.len
  have hB0 := (boxed3 w (.int .i64 s) (.slice A n c) (.slice A' n' c') 38)
  obtain ⟨hB0, hz0, hc0⟩ := hB0
  have F := fun W (hW : Below (w.alloc (.cells #[.int .i64 s, .slice A n c, .slice A' n' c'] 38)).heap.size (w.alloc (.cells #[.int .i64 s, .slice A n c, .slice A' n' c'] 38)) W) => Lib.hid (held3 hW hz0 hc0)
  have HP := Lib.hid hl
  clear hl hc0
  go_enter Try.func41, Try.ntmps41
  go_wp2
  generalize World.alloc w _ = W0 at *
  go_loopw [5] (fun i wr => ∃ q : Nat, q ≤ k ∧ i = .int .i64 q ∧ Below W0.heap.size W0 wr ∧ Hid (okTo s n l q)) (fun i _ => k - (intOf i).toNat)
  case atStart => exact ⟨0, Nat.zero_le _, rfl, Below.refl _ _, Lib.hid ⟨fun j x h => absurd h (by omega), fun j x y h => absurd h (by omega)⟩⟩
  case round =>
    obtain ⟨q, hq, rfl, hb, HK⟩ := hrel
    by_cases hlt : q < k
    · obtain ⟨x, b, o, hx, rfl, hbB, c0, c1, c2, c3⟩ := (HP.out.later (Nat.le_refl _) (after hB0 hb)).at_ hlt
      have hwx := hwf x (List.mem_of_getElem? hx)
      have hsz := (after hB0 hb).size
      have F0 := fun p : Later wr => (F _ (after hb p.ok)).out.1
      have F1 := fun p : Later wr => (F _ (after hb p.ok)).out.2.1
      have F2 := fun p : Later wr => (F _ (after hb p.ok)).out.2.2
      have X0 : ∀ p : Later wr, p.val.cell? ⟨b, o + q * 4, none⟩ = some (.int .i64 x.day) := fun p => p.cell (Nat.lt_of_lt_of_le hbB hsz) c0
      have X1 : ∀ p : Later wr, p.val.cell? ⟨b, o + q * 4 + 1, none⟩ = some (.int .i64 x.month) := fun p => p.cell (Nat.lt_of_lt_of_le hbB hsz) c1
      have X2 : ∀ p : Later wr, p.val.cell? ⟨b, o + q * 4 + 2, none⟩ = some (.int .u8 x.kind) := fun p => p.cell (Nat.lt_of_lt_of_le hbB hsz) c2
      have X3 : ∀ p : Later wr, p.val.cell? ⟨b, o + q * 4 + 3, none⟩ = some (.int .i64 x.amount) := fun p => p.cell (Nat.lt_of_lt_of_le hbB hsz) c3
      have HX := Lib.hid hx
      have HBr := Lib.hid hb
      have hki : (q : Int) < (k : Int) := by omega
      have hk0 : (0 : Int) ≤ (q : Int) := by omega
      have KR := fun W => Lib.hid (rright_any s A A' n c n' c' x W hs hs' hn hwx)
      unfold Paid.val at KR
      clear c0 c1 c2 c3 hx F hb hwx
      cases hf : fitsB s n x
      · have HF := Lib.hid hf
        rw [hf] at KR
        clear hf
        go_wp2_with fail
        (refine wp_region_later (by kernel_rfl) (by kernel_rfl) ?_; (repeat (first | go_big_quiet_step ((go_at_call 54; exact Calls.later _ (KR _).out)) | quiet_step ((go_at_call 54; exact Calls.later _ (KR _).out)))); refine wpQuiet_nil ?_; intro _ hw1; obtain ⟨pq, hw2⟩ := hw1; subst hw2)
        clear F0 F1 F2 X0 X1 X2 X3 KR
        go_wp2
        go_ret
        exact ⟨ret_bool (not_fit HX.out HF.out).symm, after hB0 (after HBr.out pq.ok)⟩
      · have HF := Lib.hid hf
        rw [hf] at KR
        clear hf
        by_cases hq0 : q = 0
        · subst hq0
          simp only [Nat.zero_mul, Nat.add_zero] at X0 X1 X2 X3
          go_wp2_with fail
          (refine wp_region_later (by kernel_rfl) (by kernel_rfl) ?_; (repeat (first | go_big_quiet_step ((go_at_call 54; exact Calls.later _ (KR _).out)) | quiet_step ((go_at_call 54; exact Calls.later _ (KR _).out)))); refine wpQuiet_nil ?_; intro _ hw1; obtain ⟨pq, hw2⟩ := hw1; subst hw2)
          clear F0 F1 F2 X0 X1 X2 X3 KR
          go_wp2
          go_roundw
          case rel => exact ⟨1, by omega, rfl, after HBr.out pq.ok, Lib.hid (okTo_first HX.out HF.out)⟩
          case measure => simp [intOf]; omega
        · obtain ⟨r, rfl⟩ : ∃ r, q = r + 1 := ⟨q - 1, by omega⟩
          obtain ⟨y, b', o', hy, hBe, _, d0, _⟩ := (HP.out.later (Nat.le_refl _) (after hB0 HBr.out)).at_ (i := r) (by omega)
          injection hBe with hBe
          injection hBe with hb1 hb2
          subst hb1; subst hb2
          have Y0 : ∀ p : Later wr, p.val.cell? ⟨b, o + r * 4, none⟩ = some (.int .i64 y.day) := fun p => p.cell (Nat.lt_of_lt_of_le hbB hsz) d0
          have HY := Lib.hid hy
          have i2 : IntKind.i64.wrap ((r : Int) + 1 - 1) = r := by rw [show (r : Int) + 1 - 1 = r by omega]; exact IntWalk.i64_in _ (by omega)
          have hpos : (0 : Int) < (r : Int) + 1 := by omega
          have hpos2 : 0 < r + 1 := by omega
          have hr1 : (r : Int) < (k : Int) := by omega
          have hr2 : (r : Int) + 1 < (k : Int) := by omega
          clear hy d0 hq0
          by_cases hd : x.day < y.day
          · have hd' : decide (x.day < y.day) = true := decide_eq_true hd
            go_wp2_with fail
            (refine wp_region_later (by kernel_rfl) (by kernel_rfl) ?_; (repeat (first | go_big_quiet_step ((go_at_call 54; exact Calls.later _ (KR _).out)) | quiet_step ((go_at_call 54; exact Calls.later _ (KR _).out)))); refine wpQuiet_nil ?_; intro _ hw1; obtain ⟨pq, hw2⟩ := hw1; subst hw2)
            clear F0 F1 F2 X0 X1 X2 X3 Y0 KR i2
            go_wp2
            go_ret
            exact ⟨ret_bool (not_sorted HY.out HX.out hd).symm, after hB0 (after HBr.out pq.ok)⟩
          · have hd' : decide (x.day < y.day) = false := decide_eq_false hd
            go_wp2_with fail
            (refine wp_region_later (by kernel_rfl) (by kernel_rfl) ?_; (repeat (first | go_big_quiet_step ((go_at_call 54; exact Calls.later _ (KR _).out)) | quiet_step ((go_at_call 54; exact Calls.later _ (KR _).out)))); refine wpQuiet_nil ?_; intro _ hw1; obtain ⟨pq, hw2⟩ := hw1; subst hw2)
            clear F0 F1 F2 X0 X1 X2 X3 Y0 KR i2
            go_wp2
            go_roundw
            case rel => exact ⟨r + 2, by omega, by go_num, after HBr.out pq.ok, Lib.hid (okTo_next HK.out HY.out HX.out HF.out (by omega))⟩
            case measure => simp [intOf]; omega
    · clear F
      go_wp2
      go_ret
      refine ⟨ret_bool ?_, after hB0 hb⟩
      have : q = l.length := by rw [hlen.out]; omega
      exact (okTo_full (this ▸ HK.out)).symm
theorem not_due {L : Led} {k : Nat} {x : Int} (hx : L.due[k]? = some x) (h : x < 0 ∨ 1099511627776 < x) : validB L = false := by
  cases hv : validB L
  · rfl
  · obtain ⟨_, h2, _⟩ := valid_here hv
    have := h2 x (List.mem_of_getElem? hx)
    omega

set_option maxRecDepth 100000 in
set_option maxHeartbeats 2000000 in
theorem rvalid_any (A : Option Addr) (n c : Nat) (A' : Option Addr) (n' c' : Nat) (L : Led) (w : World) (h : LedIn w w.heap.size A n A' n' L) :
    Calls Try.prog 20 #[.agg #[.int .i64 L.start, .slice A n c, .slice A' n' c']] w fun e w' => e = .returned (.bool (validB L)) ∧ Below w.heap.size w w' := by
  have hlen := h.due.len
  have hlen' := h.posts.len
  have s0 := h.s0
  have s1 := h.s1
  have n0 := h.n0
  have n1 := h.n1
  by_cases h1 : 0 ≤ L.start ∧ L.start ≤ 2400 - (n : Int) ∧ n ≤ 1200 ∧ n' ≤ 4000
  · obtain ⟨h1, h2', h3, h4⟩ := h1
    have KP : ∀ W, Below w.heap.size w W → Hid (Calls Try.prog 41 #[.agg #[.int .i64 L.start, .slice A n c, .slice A' n' c'], .slice A' n' c'] W fun e w' => e = .returned (.bool (L.posts.all (fitsB L.start n) && sortedB (fun a b => a.day - b.day) L.posts)) ∧ Below W.heap.size W w') := fun W hW =>
      rposts_any L.start A A' n c n' c' A' n' c' L.posts W h1 (by omega) (by omega) ((h.to hW).posts) (by omega) h.wfp
    have HI := Lib.hid h
    have HL := Lib.hid hlen
    have HL' := Lib.hid hlen'
    have hB0 := (boxed3 w (.int .i64 L.start) (.slice A n c) (.slice A' n' c') 38)
    obtain ⟨hB0, hz0, c0, c1, c2⟩ := hB0
    clear h hlen hlen'
    go_enter Try.func20, Try.ntmps20
    go_wp2
    generalize World.alloc w _ = W0 at *
    go_loop [3] (fun i => ∃ k : Nat, k ≤ n ∧ i = .int .i64 k ∧ Hid (∀ (j : Nat) x, j < k → L.due[j]? = some x → 0 ≤ x ∧ x ≤ 1099511627776)) (fun i => n - (intOf i).toNat)
    case atStart => exact ⟨0, Nat.zero_le _, rfl, Lib.hid fun j x h => absurd h (by omega)⟩
    case round =>
      obtain ⟨k, hk, rfl, HK⟩ := hrel
      by_cases hlt : k < n
      · obtain ⟨x, b, o, hx, rfl, hbB, cx⟩ := (HI.out.due.later (Nat.le_refl _) hB0).at_ hlt
        have HX := Lib.hid hx
        clear hx
        by_cases hd : x < 0
        · clear KP
          go_wp2
          go_ret
          exact ⟨ret_bool (not_due HX.out (.inl hd)).symm, hB0⟩
        · by_cases hd2 : 1099511627776 < x
          · clear KP
            go_wp2
            go_ret
            exact ⟨ret_bool (not_due HX.out (.inr hd2)).symm, hB0⟩
          · clear KP
            go_wp2
            go_round
            case rel => exact ⟨k + 1, by omega, by go_num, Lib.hid fun j y hj hy => by
              by_cases e : j = k
              · subst e; rw [HX.out] at hy; cases hy; omega
              · exact HK.out j y (by omega) hy⟩
            case measure => simp [intOf]; omega
      · go_wp2_with fail
        refine (KP _ hB0).out.mono ?_
        rintro e w1 ⟨rfl, hb1⟩
        have hB1 := after hB0 hb1
        clear KP
        go_wp2
        go_ret
        refine ⟨ret_bool ?_, hB1⟩
        have h2 : L.due.all amtB = true := List.all_eq_true.2 fun d hd => by
          obtain ⟨j, hj, e⟩ := List.getElem_of_mem hd
          exact decide_eq_true (HK.out j d (by have := HL.out; omega) (by rw [List.getElem?_eq_getElem hj, e]))
        unfold validB
        rw [h2, HL.out, HL'.out, decide_eq_true (show 0 ≤ L.start ∧ L.start ≤ 2400 - (n : Int) ∧ n ≤ 1200 from ⟨h1, h2', h3⟩), decide_eq_true h4]
        simp
  · have hz : validB L = false := by
      cases hv : validB L
      · rfl
      · obtain ⟨h2, _, h3, _⟩ := valid_here hv
        omega
    rw [hz]
    clear hz h hlen hlen'
    generalize L.start = s at *
    go_enter Try.func20, Try.ntmps20
    by_cases q1 : s < 0
    · go_wp2
      go_ret
      exact ⟨rfl, by go_grown⟩
    · by_cases q2 : 2400 < s
      · go_wp2
        go_ret
        exact ⟨rfl, by go_grown⟩
      · by_cases q3 : 1200 < n
        · go_wp2
          go_ret
          exact ⟨rfl, by go_grown⟩
        · by_cases q4 : 2400 < s + (n : Int)
          · go_wp2
            go_ret
            exact ⟨rfl, by go_grown⟩
          · have q5 : 4000 < n' := by omega
            go_wp2
            go_ret
            exact ⟨rfl, by go_grown⟩
end Go.Proofs.Ytmaojcjnpblffaa
