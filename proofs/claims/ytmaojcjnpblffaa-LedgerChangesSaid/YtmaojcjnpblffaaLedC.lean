/- The ledger's validity. -/
import Derived.Test.YtmaojcjnpblffaaLedB
namespace Go.Proofs.Ytmaojcjnpblffaa
open Go.RowKit BigFrame

def sortedB {α : Type} (cf : α → α → Int) : List α → Bool
  | [] => true
  | [_] => true
  | x :: y :: r => decide (0 ≤ cf y x) && sortedB cf (y :: r)
theorem sortedB_iff {α : Type} (cf : α → α → Int) : ∀ l : List α, sortedB cf l = true ↔ ∀ (j : Nat) x y, l[j]? = some x → l[j + 1]? = some y → 0 ≤ cf y x
  | [] => by simp [sortedB]
  | [x] => by simp [sortedB]
  | x :: y :: r => by
    simp only [sortedB, Bool.and_eq_true, decide_eq_true_eq, sortedB_iff cf (y :: r)]
    constructor
    · rintro ⟨h0, h⟩ j a b ha hb
      cases j with
      | zero => simp at ha hb; subst ha; subst hb; exact h0
      | succ j => exact h j a b (by simpa using ha) (by simpa using hb)
    · intro h
      exact ⟨h 0 x y rfl rfl, fun j a b ha hb => h (j + 1) a b (by simpa using ha) (by simpa using hb)⟩

set_option maxHeartbeats 1000000 in
theorem sorted_paid (g : FuncId) (caps : Array Value) (A : Option Addr) (n c : Nat) (l : List Paid) (cf : Paid → Paid → Int) (w : World) (he : Enters_ Try.prog g) (hr : Posts w w.heap.size A n l) (hn : n ≤ 1000000)
    (hf : ∀ x y W, x ∈ l → y ∈ l → Below w.heap.size w W → Calls Try.prog g (#[x.val, y.val] ++ caps) W fun e W' => e = .returned (.int .i64 (cf x y)) ∧ Below W.heap.size W W') :
    Calls Try.prog 51 #[.slice A n c, .func (.func g) #[] caps] w fun e w' => e = .returned (.bool (sortedB cf l)) ∧ Below w.heap.size w w' := by
  go_enter Try.func51, Try.ntmps51
  go_wp2
  go_loopw [5] (fun i wr => ∃ k : Int, -1 ≤ k ∧ k < n ∧ i = .int .i64 k ∧ Below w.heap.size w wr ∧ Hid (∀ (j : Nat) x y, k ≤ j → l[j]? = some x → l[j + 1]? = some y → 0 ≤ cf y x)) (fun i _ => (intOf i).toNat)
  case atStart =>
    refine ⟨(n : Int) - 1, by omega, by omega, rfl, Below.refl _ _, fun j x y hj hx hy => ?_⟩
    have h1 := (List.getElem?_eq_some_iff.1 hy).1
    have h2 := hr.len
    omega
  case round =>
    obtain ⟨k, hk0, hk, rfl, hb, hall⟩ := hrel
    by_cases hlt : 0 < k
    · obtain ⟨m, rfl⟩ : ∃ m : Nat, k = (m : Int) + 1 := ⟨(k - 1).toNat, by omega⟩
      obtain ⟨x, b, o, hx, rfl, hbB, c0, c1, c2, c3⟩ := (hr.later (Nat.le_refl _) hb).at_ (i := m + 1) (by omega)
      obtain ⟨y, b', o', hy, hA, hbB', d0, d1, d2, d3⟩ := (hr.later (Nat.le_refl _) hb).at_ (i := m) (by omega)
      simp only [Option.some.injEq, Addr.mk.injEq, and_true] at hA
      obtain ⟨rfl, rfl⟩ := hA
      have H := fun p : Later wr => Lib.hid (hf _ _ p.val (List.mem_of_getElem? hx) (List.mem_of_getElem? hy) (hb.trans (p.ok.mono hb.size)))
      have hlt' : b < wr.heap.size := by have := hb.size; omega
      have C0 := fun p : Later wr => p.cell (by exact hlt') c0
      have C1 := fun p : Later wr => p.cell (by exact hlt') c1
      have C2 := fun p : Later wr => p.cell (by exact hlt') c2
      have C3 := fun p : Later wr => p.cell (by exact hlt') c3
      have D0 := fun p : Later wr => p.cell (by exact hlt') d0
      have D1 := fun p : Later wr => p.cell (by exact hlt') d1
      have D2 := fun p : Later wr => p.cell (by exact hlt') d2
      have D3 := fun p : Later wr => p.cell (by exact hlt') d3
      have Hx := Lib.hid hx
      have Hy := Lib.hid hy
      have he' := he.out
      have g1 : (m : Int) + 1 < (n : Int) := by omega
      have g2 : (0 : Int) ≤ (m : Int) + 1 := by omega
      have g3 : ((m : Int) + 1).toNat = m + 1 := by omega
      have g4 : (m : Int) < (n : Int) := by omega
      have g5 : (m : Int) + 1 - 1 = m := by omega
      have g6 : IntKind.i64.wrap ((m : Int) + 1 - 1) = m := by rw [g5]; exact IntWalk.i64_in _ (by omega)
      clear hr hf hx hy he c0 c1 c2 c3 d0 d1 d2 d3
      by_cases hc : cf x y < 0
      · go_wp2_with fail
        (refine wp_region_later (by kernel_rfl) (by kernel_rfl) ?_; (repeat (first | go_big_quiet_step ((exact Calls.later _ (H _).out)) | quiet_step ((exact Calls.later _ (H _).out)))); refine wpQuiet_nil ?_; intro _ hw1; obtain ⟨pq, hw2⟩ := hw1; subst hw2)
        have hB1 : Below w.heap.size w pq.val := after hb pq.ok
        clear H C0 C1 C2 C3 D0 D1 D2 D3
        go_wp2
        go_ret
        refine ⟨ret_bool (Eq.symm ?_), hB1⟩
        rw [← Bool.not_eq_true, sortedB_iff]
        intro h
        have := h m y x Hy.out Hx.out
        omega
      · have hc' : decide (cf x y < 0) = false := decide_eq_false hc
        go_wp2_with fail
        (refine wp_region_later (by kernel_rfl) (by kernel_rfl) ?_; (repeat (first | go_big_quiet_step ((exact Calls.later _ (H _).out)) | quiet_step ((exact Calls.later _ (H _).out)))); refine wpQuiet_nil ?_; intro _ hw1; obtain ⟨pq, hw2⟩ := hw1; subst hw2)
        have hB1 : Below w.heap.size w pq.val := after hb pq.ok
        clear H C0 C1 C2 C3 D0 D1 D2 D3
        have Hc := Lib.hid hc
        clear hc
        go_wp2
        go_roundw
        case rel =>
          refine ⟨m, by omega, by omega, by go_num, hB1, fun j x' y' hj hx' hy' => ?_⟩
          rcases Nat.lt_or_ge m j with h | h
          · exact hall.out j x' y' (by omega) hx' hy'
          · obtain rfl : j = m := by omega
            have e1 := Hx.out
            have e2 := Hy.out
            rw [hx'] at e2
            rw [hy'] at e1
            cases e1; cases e2
            have := Hc.out
            omega
        case measure => simp [intOf]
    · clear hr hf he
      have HA := hall
      clear hall
      go_wp2
      go_ret
      refine ⟨ret_bool (Eq.symm ?_), hb⟩
      rw [sortedB_iff]
      exact fun j x y hx hy => HA.out j x y (by omega) hx hy

set_option maxHeartbeats 1000000 in
theorem posts_any (s : Int) (A A' : Option Addr) (n c n' c' : Nat) (B : Option Addr) (k d : Nat) (l : List Paid) (w : World) (hs : 0 ≤ s) (hs' : s ≤ 1000000) (hn : n ≤ 1000000) (hl : Posts w w.heap.size B k l) (hk : k ≤ 1000000)
    (hwf : ∀ p ∈ l, p.wf) :
    Calls Try.prog 38 #[.agg #[.int .i64 s, .slice A n c, .slice A' n' c'], .slice B k d] w fun e w' =>
      e = .returned (.bool (l.all (fitsB s n) && sortedB (fun a b => a.day - b.day) l)) ∧ Below w.heap.size w w' := by
  have e1 : Enters_ Try.prog 49 := enters_ Try.func49 (by kernel_rfl) rfl
  have e2 : Enters_ Try.prog 52 := enters_ Try.func52 (by kernel_rfl) rfl
  have K1 : ∀ W, Below w.heap.size w W → w.heap.size < W.heap.size → W.cell? ⟨w.heap.size, 0, none⟩ = some (.int .i64 s) → W.cell? ⟨w.heap.size, 1, none⟩ = some (.slice A n c) → W.cell? ⟨w.heap.size, 2, none⟩ = some (.slice A' n' c') →
      Hid (Calls Try.prog 48 #[.slice B k d, .func (.func 49) #[] #[.pointer (some ⟨w.heap.size, 0, none⟩)]] W fun e w' => e = .returned (.bool (l.any fun p => !fitsB s n p)) ∧ Below W.heap.size W w') := by
    intro W hW hlt h0 h1 h2
    refine has_paid _ _ B k d l (fun p => !fitsB s n p) W e1 ((hl.later (Nat.le_refl _) hW).more hW.size) hk fun x W' hx hW' => ?_
    obtain ⟨hc, _⟩ := bcell hW'
    exact fitsclosure w.heap.size s A A' n c n' c' x W' hs hs' hn (hwf x hx) (Nat.lt_of_lt_of_le hlt hW'.size) (by rw [hc _ _ hlt]; exact h0) (by rw [hc _ _ hlt]; exact h1) (by rw [hc _ _ hlt]; exact h2)
  have K2 : l.all (fitsB s n) = true → ∀ W, Below w.heap.size w W →
      Hid (Calls Try.prog 51 #[.slice B k d, .func (.func 52) #[] #[]] W fun e w' => e = .returned (.bool (sortedB (fun a b => a.day - b.day) l)) ∧ Below W.heap.size W w') := by
    intro hall W hW
    refine sorted_paid _ _ B k d l (fun a b => a.day - b.day) W e2 ((hl.later (Nat.le_refl _) hW).more hW.size) hk fun x y W' hx hy hW' => ?_
    have hx' := of_decide_eq_true (List.all_eq_true.1 hall x hx)
    have hy' := of_decide_eq_true (List.all_eq_true.1 hall y hy)
    exact dayclosure x y W' hx'.1.1 (by have := hx'.1.2; omega) hy'.1.1 (by have := hy'.1.2; omega)
  have hany : (l.any fun p => !fitsB s n p) = !(l.all (fitsB s n)) := by rw [List.not_all_eq_any_not]
  rw [hany] at K1
  have K1' := Lib.hid K1
  have K2' := Lib.hid K2
  clear K1 K2 hany e1 e2 hl hwf
  cases hall : l.all (fitsB s n)
  all_goals
    go_enter Try.func38, Try.ntmps38
    go_wp2_with fail
    refine (K1'.out _ (by go_grown) (by simp) (by simp [go_sem]) (by simp [go_sem]) (by simp [go_sem])).out.mono ?_
    rintro e w1 ⟨rfl, hb1⟩
    have hB1 : Below w.heap.size w w1 := after (by go_grown) hb1
    clear hb1
    go_wp2_with fail
  · go_ret
    exact ⟨rfl, hB1⟩
  · refine (K2'.out hall _ (by go_grown)).out.mono ?_
    rintro e w2 ⟨rfl, hb2⟩
    have hB2 : Below w.heap.size w w2 := after (by go_grown) hb2
    clear hb2
    go_wp2
    go_ret
    exact ⟨rfl, hB2⟩
end Go.Proofs.Ytmaojcjnpblffaa
