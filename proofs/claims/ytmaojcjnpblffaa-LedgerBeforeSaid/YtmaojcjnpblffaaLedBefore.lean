/- The walk of LedgerBefore. -/
import Derived.Test.YtmaojcjnpblffaaLedM
namespace Go.Proofs.Ytmaojcjnpblffaa
open Go.RowKit BigFrame

set_option maxRecDepth 100000 in
set_option maxHeartbeats 4000000 in
theorem before_walk (A : Option Addr) (n c : Nat) (A' : Option Addr) (n' c' : Nat) (L : Led) (x : Int) (w : World) (h : LedIn w w.heap.size A n A' n' L) (x0 : -9223372036854775808 ≤ x) (x1 : x ≤ 9223372036854775807) :
    Calls Try.prog 4 #[.agg #[.int .i64 L.start, .slice A n c, .slice A' n' c'], .int .i64 x] w fun e w' => e = .returned (.bool true) ∧ Below w.heap.size w w' := by
  have KU := fun W hW => Lib.hid (usable_any A n c A' n' c' L W (h.to (w' := W) hW))
  have KW := fun W => Lib.hid (awake_any W)
  cases hu : usableB L
  · clear h
    go_enter Try.func4, Try.ntmps4
    go_wp2_with fail
    refine (KU _ (by go_grown)).out.mono ?_
    rintro e w1 ⟨rfl, hb1⟩
    have hB1 : Below w.heap.size w w1 := after (by go_grown) hb1
    clear KU hb1
    go_wp2_with fail
    refine (KW _).out.mono ?_
    rintro e w2 ⟨rfl, hb2⟩
    have hB2 := after hB1 hb2
    go_wp2
    go_ret
    exact ⟨rfl, hB2⟩
  · obtain ⟨u1, u2, hv⟩ := usable_here hu
    obtain ⟨⟨s0, s1, _⟩, _⟩ := valid_here hv
    have hlen := h.due.len
    have KB : ∀ (k : Nat) (b : Int), b = L.start + k → k ≤ n → ∀ W, Below w.heap.size w W → Hid (Calls Try.prog 17 #[.agg #[.int .i64 L.start, .slice A n c, .slice A' n' c'], .int .i64 b] W fun e w' => e = .returned (.tuple #[.int .i64 (opensTo L k), .int .i64 0]) ∧ Below W.heap.size W w') := by
      intro k b hb hk W hW
      have := balance_any A n c A' n' c' L b W (h.to hW) (by omega)
      rw [balanceR_ok hv, hb, balanceV_at L k (by omega)] at this
      rw [hb]
      exact this
    have KH : ∀ (b : Int), L.start + n ≤ b → b ≤ 9223372036854775807 → ∀ W, Below w.heap.size w W → Hid (Calls Try.prog 17 #[.agg #[.int .i64 L.start, .slice A n c, .slice A' n' c'], .int .i64 b] W fun e w' => e = .returned (.tuple #[.int .i64 (opensTo L n), .int .i64 0]) ∧ Below W.heap.size W w') := by
      intro b hb hb' W hW
      have := balance_any A n c A' n' c' L b W (h.to hW) (by omega)
      rw [balanceR_ok hv, balanceV_high L b (by omega), hlen] at this
      exact this
    have KL : ∀ (b : Int), b ≤ L.start → -9223372036854775808 ≤ b → ∀ W, Below w.heap.size w W → Hid (Calls Try.prog 17 #[.agg #[.int .i64 L.start, .slice A n c, .slice A' n' c'], .int .i64 b] W fun e w' => e = .returned (.tuple #[.int .i64 0, .int .i64 0]) ∧ Below W.heap.size W w') := by
      intro b hb hb' W hW
      have := balance_any A n c A' n' c' L b W (h.to hW) (by omega)
      rw [balanceR_ok hv, balanceV_low L b hb] at this
      exact this
    have KO : ∀ (k : Nat), k < n → ∀ W, Below w.heap.size w W → Hid (Calls Try.prog 16 #[.agg #[.int .i64 L.start, .slice A n c, .slice A' n' c'], .int .i64 (L.start + k)] W fun e w' => e = .returned (.tuple #[.int .i64 (openV L (L.start + k)), .int .i64 0]) ∧ Below W.heap.size W w') := by
      intro k hk W hW
      have := open_any A n c A' n' c' L (L.start + k) W (h.to hW) (by omega)
      rw [openR_ok hv (by omega)] at this
      exact this
    have BO := fun k (hk : k < n) => Lib.hid (openV_bd hv (k := k) (by omega))
    have BT := fun k (hk : k ≤ n) => Lib.hid (opensTo_bd hv k (by omega))
    have ST : ∀ k : Nat, Hid (opensTo L (k + 1) = opensTo L k + openV L (L.start + k)) := fun k => rfl
    have u1' : n ≤ 40 := by omega
    have s1' : L.start ≤ 2400 := by omega
    clear h u1 u2 hv hlen s1
    generalize L.start = s at *
    go_enter Try.func4, Try.ntmps4
    go_wp2_with fail
    refine (KU _ (by go_grown)).out.mono ?_
    rintro e w1 ⟨rfl, hb1⟩
    have hB1 : Below w.heap.size w w1 := after (by go_grown) hb1
    have hz1 : w.heap.size < w1.heap.size := Nat.lt_of_lt_of_le (by first | omega | (simp; done) | (simp; omega)) hb1.size
    have F : ∀ W, Below w1.heap.size w1 W → Hid (W.cell? ⟨w.heap.size, 0, none⟩ = some (.int .i64 s) ∧ W.cell? ⟨w.heap.size, 1, none⟩ = some (.slice A n c) ∧ W.cell? ⟨w.heap.size, 2, none⟩ = some (.slice A' n' c')) := fun W hW =>
      held3 hW hz1 (held3 hb1 (by first | omega | (simp; done) | (simp; omega)) (by simp [go_sem]))
    obtain ⟨f0, f1, f2⟩ := (F w1 (Below.refl _ _)).out
    clear KU hb1
    go_wp2_with fail
    go_loopw [5, 25] (fun t i wr => ∃ k : Nat, k ≤ n ∧ i = .int .i64 k ∧ t = .int .i64 (opensTo L k) ∧ Below w1.heap.size w1 wr) (fun _ i _ => n - (intOf i).toNat)
    case atStart => exact ⟨0, Nat.zero_le _, rfl, rfl, Below.refl _ _⟩
    case round =>
      obtain ⟨k, hk, rfl, rfl, hb⟩ := hrel
      clear f0 f1 f2
      obtain ⟨f0, f1, f2⟩ := (F _ hb).out
      by_cases hlt : k < n
      · have b1 := (BO k hlt).out
        have b2 := (BT k hk).out
        have hst := ST k
        have KBk := KB k (s + k) rfl hk
        have KBk' := KB (k + 1) (s + k + 1) (by omega) (by omega)
        have KOk := KO k hlt
        rw [hst.out] at KBk'
        have HB := Lib.hid hb
        have hBr : Below w.heap.size w wr := after hB1 hb
        generalize openV L (s + k) = q at *
        generalize hT : opensTo L k = t at *
        have HST := Lib.hid hst.out
        have t1 : -5278975227278131200 ≤ t := by omega
        have t2 : t ≤ 5278975227278131200 := by omega
        clear KB KO KH KL BO BT ST hb hst b2 hT
        go_wp2_with fail
        refine (KBk _ hBr).out.mono ?_
        rintro e w2 ⟨rfl, hb2⟩
        have hA2 := after HB.out hb2
        have hB2 := after hBr hb2
        obtain ⟨g0, g1, g2⟩ := (F _ hA2).out
        clear f0 f1 f2 hb2 KBk
        go_wp2_with fail
        refine (KOk _ hB2).out.mono ?_
        rintro e w3 ⟨rfl, hb3⟩
        have hA3 := after hA2 hb3
        have hB3 := after hB2 hb3
        obtain ⟨f0, f1, f2⟩ := (F _ hA3).out
        clear g0 g1 g2 hb3 KOk
        go_wp2_with fail
        refine (KBk' _ hB3).out.mono ?_
        rintro e w4 ⟨rfl, hb4⟩
        have hA4 := Lib.hid (after hA3 hb4)
        clear f0 f1 f2 hb4 KBk' hA3 hB3 hA2 hB2 F
        go_wp2
        go_roundw
        case rel => exact ⟨k + 1, by omega, by go_num, by rw [HST.out], hA4.out⟩
        case measure => simp [intOf]; omega
      · have hkn : k = n := by omega
        subst hkn
        have hBr : Below w.heap.size w wr := after hB1 hb
        rcases (show (x ≤ s ∧ x < s + k) ∨ (s < x ∧ x < s + k) ∨ (s < x ∧ s + k ≤ x) ∨ (x ≤ s ∧ s + k ≤ x) by omega) with ⟨hx, hx'⟩ | ⟨hx, hx'⟩ | ⟨hx, hx'⟩ | ⟨hx, hx'⟩
        ·
          have KHk := KH (s + k) (by omega) (by omega)
          have KLk := KL x (by omega) (by omega)
          generalize opensTo L k = t at *
          clear KB KO BO BT ST KH KL
          go_wp2_with fail
          refine (KHk _ hBr).out.mono ?_
          rintro e w2 ⟨rfl, hb2⟩
          have hA2 := after hb hb2
          have hB2 := after hBr hb2
          obtain ⟨g0, g1, g2⟩ := (F _ hA2).out
          clear f0 f1 f2 hb2 KHk
          go_wp2_with fail
          refine (KLk _ hB2).out.mono ?_
          rintro e w3 ⟨rfl, hb3⟩
          have hB3 := after hB2 hb3
          clear g0 g1 g2 hb3 KLk hA2 F
          go_wp2_with fail
          refine (KW _).out.mono ?_
          rintro e w4 ⟨rfl, hb4⟩
          have hB4 := after hB3 hb4
          go_wp2
          go_ret
          exact ⟨rfl, hB4⟩
        ·
          have KHk := KH (s + k) (by omega) (by omega)
          have KLk := KL s (by omega) (by omega)
          generalize opensTo L k = t at *
          clear KB KO BO BT ST KH KL
          go_wp2_with fail
          refine (KHk _ hBr).out.mono ?_
          rintro e w2 ⟨rfl, hb2⟩
          have hA2 := after hb hb2
          have hB2 := after hBr hb2
          obtain ⟨g0, g1, g2⟩ := (F _ hA2).out
          clear f0 f1 f2 hb2 KHk
          go_wp2_with fail
          refine (KLk _ hB2).out.mono ?_
          rintro e w3 ⟨rfl, hb3⟩
          have hB3 := after hB2 hb3
          clear g0 g1 g2 hb3 KLk hA2 F
          go_wp2_with fail
          refine (KW _).out.mono ?_
          rintro e w4 ⟨rfl, hb4⟩
          have hB4 := after hB3 hb4
          go_wp2
          go_ret
          exact ⟨rfl, hB4⟩
        ·
          have KHk := KH x (by omega) (by omega)
          have KLk := KL s (by omega) (by omega)
          generalize opensTo L k = t at *
          clear KB KO BO BT ST KH KL
          go_wp2_with fail
          refine (KHk _ hBr).out.mono ?_
          rintro e w2 ⟨rfl, hb2⟩
          have hA2 := after hb hb2
          have hB2 := after hBr hb2
          obtain ⟨g0, g1, g2⟩ := (F _ hA2).out
          clear f0 f1 f2 hb2 KHk
          go_wp2_with fail
          refine (KLk _ hB2).out.mono ?_
          rintro e w3 ⟨rfl, hb3⟩
          have hB3 := after hB2 hb3
          clear g0 g1 g2 hb3 KLk hA2 F
          go_wp2_with fail
          refine (KW _).out.mono ?_
          rintro e w4 ⟨rfl, hb4⟩
          have hB4 := after hB3 hb4
          go_wp2
          go_ret
          exact ⟨rfl, hB4⟩
        ·
          have KHk := KH x (by omega) (by omega)
          have KLk := KL x (by omega) (by omega)
          generalize opensTo L k = t at *
          clear KB KO BO BT ST KH KL
          go_wp2_with fail
          refine (KHk _ hBr).out.mono ?_
          rintro e w2 ⟨rfl, hb2⟩
          have hA2 := after hb hb2
          have hB2 := after hBr hb2
          obtain ⟨g0, g1, g2⟩ := (F _ hA2).out
          clear f0 f1 f2 hb2 KHk
          go_wp2_with fail
          refine (KLk _ hB2).out.mono ?_
          rintro e w3 ⟨rfl, hb3⟩
          have hB3 := after hB2 hb3
          clear g0 g1 g2 hb3 KLk hA2 F
          go_wp2_with fail
          refine (KW _).out.mono ?_
          rintro e w4 ⟨rfl, hb4⟩
          have hB4 := after hB3 hb4
          go_wp2
          go_ret
          exact ⟨rfl, hB4⟩
end Go.Proofs.Ytmaojcjnpblffaa
