/- The walk of LedgerLearns. -/
import Derived.Test.YtmaojcjnpblffaaLedLearnsW
namespace Go.Proofs.Ytmaojcjnpblffaa
open Go.RowKit BigFrame
set_option linter.unusedVariables false

/-- A call that hands back the ledger L in memory that reads, and the error 0. -/
def GivesIn (s : Int) (n n' : Nat) (L : Led) (w : World) (e : Ending) (w' : World) : Prop :=
  ∃ A c A' c', e = .returned (.tuple #[.agg #[.int .i64 s, .slice A n c, .slice A' n' c'], .int .i64 0]) ∧ LedIn w' w'.heap.size A n A' n' L ∧ Below w.heap.size w w'
theorem GivesLed.in_ {w : World} {L : Led} {e : Ending} {w' : World} (h : GivesLed w (L, 0) e w') (wfp : ∀ p ∈ L.posts, p.wf) (wfd : ∀ d ∈ L.due, -9223372036854775808 ≤ d ∧ d ≤ 9223372036854775807) (s0 : -9223372036854775808 ≤ L.start) (s1 : L.start ≤ 9223372036854775807)
    {s : Int} {n n' : Nat} (hs : L.start = s) (hn : L.due.length = n) (hn' : L.posts.length = n') : GivesIn s n n' L w e w' := by
  obtain ⟨A, c, A', c', h1, h2, h3⟩ := h
  subst hs hn hn'
  exact ⟨A, c, A', c', h1, h2.led wfp wfd s0 s1, h3⟩

theorem boxed3 (w : World) (v0 v1 v2 : Value) (t : TypeId) : Below w.heap.size w (w.alloc (.cells #[v0, v1, v2] t)) ∧ w.heap.size < (w.alloc (.cells #[v0, v1, v2] t)).heap.size ∧
    ((w.alloc (.cells #[v0, v1, v2] t)).cell? ⟨w.heap.size, 0, none⟩ = some v0 ∧ (w.alloc (.cells #[v0, v1, v2] t)).cell? ⟨w.heap.size, 1, none⟩ = some v1 ∧ (w.alloc (.cells #[v0, v1, v2] t)).cell? ⟨w.heap.size, 2, none⟩ = some v2) := by
  have h : (w.alloc (.cells #[v0, v1, v2] t)).heap[w.heap.size]? = some (.cells #[v0, v1, v2] t (0, 0)) := heap_at rfl
  exact ⟨by go_grown, by simp, cell_of_row _ _ 0 _ _ _ h, cell_of_row _ _ 1 _ _ _ h, cell_of_row _ _ 2 _ _ _ h⟩

set_option maxRecDepth 100000 in
set_option maxHeartbeats 8000000 in
theorem learns_walk (A : Option Addr) (n c : Nat) (A' : Option Addr) (n' c' : Nat) (L : Led) (a d d2 : Int) (w : World) (h : LedIn w w.heap.size A n A' n' L) (a0 : 0 ≤ a) (_a1 : a ≤ 255) (d0 : 0 ≤ d) (d1 : d ≤ 4294967295) (e0 : 0 ≤ d2) (e1 : d2 ≤ 4294967295) :
    Calls Try.prog 3 #[.agg #[.int .i64 L.start, .slice A n c, .slice A' n' c'], .int .u8 a, .int .u32 d, .int .u32 d2] w fun e w' => e = .returned (.bool true) ∧ Below w.heap.size w w' := by
  have KU := fun W hW => Lib.hid (usable_any A n c A' n' c' L W (h.to (w' := W) hW))
  have KW := fun W => Lib.hid (awake_any W)
  cases hu : usableB L
  · clear h
    go_enter Try.func3, Try.ntmps3
    go_wp2_with fail
    refine (KU _ (by go_grown)).out.mono ?_
    rintro e w1 ⟨rfl, hb1⟩
    have hB1 : Below w.heap.size w w1 := after (by go_grown) hb1
    clear KU hb1
    go_wp2_with fail
    refine (KW _).out.mono ?_
    rintro e w2 ⟨rfl, hb2⟩
    have hB2 := after hB1 hb2
    go_wp2
    go_ret
    exact ⟨rfl, hB2⟩
  · obtain ⟨u1, u2, hv⟩ := usable_here hu
    obtain ⟨⟨s0, s1, _⟩, hdue, _⟩ := valid_here hv
    have hlen := h.due.len
    have hlen' := h.posts.len
    obtain ⟨k, hk⟩ : ∃ k : Nat, (k : Int) = a % ((n : Int) + 1) := ⟨(a % ((n : Int) + 1)).toNat, by have := Int.emod_nonneg a (b := (n : Int) + 1) (by omega); omega⟩
    have hkn : k ≤ n := by have := Int.emod_lt_of_pos a (b := (n : Int) + 1) (by omega); omega
    have hrem : Int.tmod a ((n : Int) + 1) = k := by rw [Int.tmod_eq_emod_of_nonneg a0, hk]
    by_cases hfull : k = n ∧ 2400 ≤ L.start + (n : Int)
    · have KL : ∀ W, Below w.heap.size w W → Hid (Calls Try.prog 13 #[.agg #[.int .i64 L.start, .slice A n c, .slice A' n' c'], .int .i64 2400, .int .i64 d] W (GivesLed W (Led.zero, 5))) := by
        intro W hW
        have := learn_any A n c A' n' c' L (L.start + n) d W (h.to hW) (by omega)
        rw [← hlen, learn_full hv (by omega) (by rw [hlen]; omega) d0 (by omega), hlen, show L.start + (n : Int) = 2400 by omega] at this
        exact this
      have hsn : L.start + (n : Int) = 2400 := by omega
      obtain ⟨rfl, _⟩ := hfull
      have n40 : k ≤ 40 := by omega
      have s0' : L.start ≤ 2400 := by omega
      clear h hdue hlen hlen' hv hk hkn u1 s1
      generalize L.start = s at *
      go_enter Try.func3, Try.ntmps3
      go_wp2_with fail
      refine (KU _ (by go_grown)).out.mono ?_
      rintro e w1 ⟨rfl, hb1⟩
      have hB1 : Below w.heap.size w w1 := after (by go_grown) hb1
      have hz1 : w.heap.size < w1.heap.size := Nat.lt_of_lt_of_le (by first | omega | (simp; done) | (simp; omega)) hb1.size
      obtain ⟨f0, f1, f2⟩ := held3 hb1 (b := w.heap.size) (v0 := .int .i64 s) (v1 := .slice A k c) (v2 := .slice A' n' c') (by first | omega | (simp; done) | (simp; omega)) (by simp [go_sem])
      clear KU hb1
      go_wp2_with fail
      refine (KL _ hB1).out.mono ?_
      rintro e w2 ⟨A2, c2, A2', c2', rfl, _, hb2⟩
      obtain ⟨g0, g1, g2⟩ := held3 hb2 hz1 ⟨f0, f1, f2⟩
      have hB2 : Below w.heap.size w w2 := after hB1 hb2
      have hs2 := hb2.size
      have hlt2 : w.heap.size < w2.heap.size := by omega
      clear f0 f1 f2 KL hb2
      go_wp2_with fail
      refine (KW _).out.mono ?_
      rintro e w3 ⟨rfl, hb3⟩
      have hB3 : Below w.heap.size w w3 := after (by go_grown) hb3
      clear g0 g1 g2 KW hb3
      go_wp2
      go_ret
      exact ⟨rfl, hB3⟩
    · have hcan : CanLearn L k := by unfold CanLearn; omega
      have hnm : (learned L k d).due.length = max n (k + 1) := by rw [learned_len (by omega), hlen]; split <;> omega
      have hnm2 : (learned L k d2).due.length = max n (k + 1) := by rw [learned_len (by omega), hlen]; split <;> omega
      have wfd : ∀ x : Int, 0 ≤ x → x ≤ 4294967295 → ∀ y ∈ (learned L k x).due, -9223372036854775808 ≤ y ∧ y ≤ 9223372036854775807 := fun x x0 x1 y hy => by
        have := (valid_here (learned_valid hv hcan (by omega) x0 (d := x) (by omega))).2.1 y hy
        omega
      have KL : ∀ x : Int, 0 ≤ x → x ≤ 4294967295 → ∀ W, Below w.heap.size w W → Hid (Calls Try.prog 13 #[.agg #[.int .i64 L.start, .slice A n c, .slice A' n' c'], .int .i64 (L.start + k), .int .i64 x] W (GivesIn L.start (max n (k + 1)) n' (learned L k x) W)) := by
        intro x x0 x1 W hW
        have := learn_any A n c A' n' c' L (L.start + k) x W (h.to hW) (by omega)
        rw [learn_ok hv hcan (by omega) x0 (by omega)] at this
        exact this.mono fun e w' hg => hg.in_ h.wfp (wfd x x0 x1) h.s0 h.s1 rfl (by rw [learned_len (by omega), hlen]; split <;> omega) hlen'
      have KL2 : ∀ A1 c1 A1' c1' w1, LedIn w1 w1.heap.size A1 (max n (k + 1)) A1' n' (learned L k d) → ∀ W, Below w1.heap.size w1 W → Hid (Calls Try.prog 13 #[.agg #[.int .i64 L.start, .slice A1 (max n (k + 1)) c1, .slice A1' n' c1'], .int .i64 (L.start + k), .int .i64 d2] W (GivesIn L.start (max n (k + 1)) n' (learned L k d2) W)) := by
        intro A1 c1 A1' c1' w1 h1 W hW
        have := learn_any A1 _ c1 A1' n' c1' (learned L k d) (L.start + k) d2 W (h1.to hW) (by omega)
        rw [show L.start + (k : Int) = (learned L k d).start + k from rfl, learn_ok (learned_valid hv hcan (by omega) d0 (by omega)) (can_again hcan) (by rw [hnm]; omega) e0 (by omega), learn_twice (by omega)] at this
        exact this.mono fun e w' hg => hg.in_ h.wfp (wfd d2 e0 e1) h.s0 h.s1 rfl hnm2 hlen'
      have KO : ∀ (i : Nat), i < n → ∀ W, Below w.heap.size w W → Hid (Calls Try.prog 16 #[.agg #[.int .i64 L.start, .slice A n c, .slice A' n' c'], .int .i64 (L.start + i)] W fun e w' => e = .returned (.tuple #[.int .i64 (openV L (L.start + i)), .int .i64 0]) ∧ Below W.heap.size W w') := by
        intro i hi W hW
        have := open_any A n c A' n' c' L (L.start + i) W (h.to hW) (by omega)
        rw [openR_ok hv (by omega)] at this
        exact this
      have KON : ∀ W, Below w.heap.size w W → Hid (Calls Try.prog 16 #[.agg #[.int .i64 L.start, .slice A n c, .slice A' n' c'], .int .i64 (L.start + n)] W fun e w' => e = .returned (.tuple #[.int .i64 0, .int .i64 6]) ∧ Below W.heap.size W w') := by
        intro W hW
        have := open_any A n c A' n' c' L (L.start + n) W (h.to hW) (by omega)
        rw [← hlen, openR_next hv, hlen] at this
        exact this
      have KM : ∀ A1 c1 A1' c1' w1, LedIn w1 w1.heap.size A1 (max n (k + 1)) A1' n' (learned L k d) → ∀ i : Nat, i < max n (k + 1) → ∀ W, Below w1.heap.size w1 W → Hid (Calls Try.prog 16 #[.agg #[.int .i64 L.start, .slice A1 (max n (k + 1)) c1, .slice A1' n' c1'], .int .i64 (L.start + i)] W fun e w' => e = .returned (.tuple #[.int .i64 (openV (learned L k d) (L.start + i)), .int .i64 0]) ∧ Below W.heap.size W w') := by
        intro A1 c1 A1' c1' w1 h1 i hi W hW
        have := open_any A1 _ c1 A1' n' c1' (learned L k d) (L.start + i) W (h1.to hW) (by omega)
        rw [show L.start + (i : Int) = (learned L k d).start + i from rfl, openR_ok (learned_valid hv hcan (by omega) d0 (by omega)) (by rw [hnm]; omega)] at this
        exact this
      have KV : ∀ A1 c1 A1' c1' w1, LedIn w1 w1.heap.size A1 (max n (k + 1)) A1' n' (learned L k d) → ∀ W, Below w1.heap.size w1 W → Hid (Calls Try.prog 15 #[.agg #[.int .i64 L.start, .slice A1 (max n (k + 1)) c1, .slice A1' n' c1']] W fun e w' => e = .returned (.bool true) ∧ Below W.heap.size W w') := by
        intro A1 c1 A1' c1' w1 h1 W hW
        have := valid_any A1 _ c1 A1' n' c1' (learned L k d) W (h1.to hW)
        rw [learned_valid hv hcan (by omega) d0 (by omega)] at this
        exact this
      have KS : ∀ A1 c1 A1' c1' w1 A2 c2 A2' c2' w2, LedIn w1 w1.heap.size A1 (max n (k + 1)) A1' n' (learned L k d2) → LedIn w2 w2.heap.size A2 (max n (k + 1)) A2' n' (learned L k d2) → ∀ W, Below w1.heap.size w1 W → Below w2.heap.size w2 W → Hid (Calls Try.prog 14 #[.agg #[.int .i64 L.start, .slice A1 (max n (k + 1)) c1, .slice A1' n' c1'], .agg #[.int .i64 L.start, .slice A2 (max n (k + 1)) c2, .slice A2' n' c2']] W fun e w' => e = .returned (.bool true) ∧ Below W.heap.size W w') := by
        intro A1 c1 A1' c1' w1 A2 c2 A2' c2' w2 h1 h2 W hW1 hW2
        exact same_true L.start (learned L k d2).due (learned L k d2).posts A1 A2 A1' A2' _ c1 c2 n' c1' c2' W (h1.to hW1).due (h2.to hW2).due (h1.to hW1).posts (h2.to hW2).posts (by omega) (by omega)
      have RD : ∀ i, i < n → ∀ W, Below w.heap.size w W → Hid (∃ x b o, L.due[i]? = some x ∧ A = some ⟨b, o, none⟩ ∧ b < w.heap.size ∧ W.cell? ⟨b, o + i, none⟩ = some (.int .i64 x)) := fun i hi W hW => (h.due.later (Nat.le_refl _) hW).at_ hi
      have hn40 : n ≤ 40 := by omega
      have s1' : L.start ≤ 2400 := by omega
      have hop : ∀ i : Nat, Hid (openV (learned L k d) (L.start + i) = (if i = k then d else L.due.getD i 0) - postedV L (L.start + i) ∧ openV L (L.start + i) = L.due.getD i 0 - postedV L (L.start + i)) := fun i => ⟨learned_open (by omega) i, openV_at L i⟩
      have hpn : Hid (postedV L (L.start + n) = 0) := by have := posted_next hv; rw [hlen] at this; exact this
      have hgn : Hid (∀ i x, L.due[i]? = some x → L.due.getD i 0 = x ∧ 0 ≤ x ∧ x ≤ 1099511627776) := fun i x hx => ⟨by rw [List.getD_eq_getElem?_getD, hx]; rfl, hdue x (List.mem_of_getElem? hx)⟩
      have BP := fun q => Lib.hid (posted_bd hv q)
      have hmx : ∀ m : Nat, m = max n (k + 1) → (k < n ∧ m = n) ∨ (k = n ∧ m = n + 1) := by omega
      generalize hm : max n (k + 1) = m at *
      have hmx := hmx m rfl
      have hmax : (if (n : Int) < (k : Int) + 1 then (k : Int) + 1 else (n : Int)) = m := by split <;> omega
      clear hfull h hdue hlen hlen' hv hk hkn u1 u2 s1 hcan hnm hnm2 wfd hm
      generalize L.start = s at *
      go_enter Try.func3, Try.ntmps3
      go_wp2_with fail
      refine (KU _ (by go_grown)).out.mono ?_
      rintro e w1 ⟨rfl, hb1⟩
      have hB1 : Below w.heap.size w w1 := after (by go_grown) hb1
      have hz1 : w.heap.size < w1.heap.size := Nat.lt_of_lt_of_le (by first | omega | (simp; done) | (simp; omega)) hb1.size
      obtain ⟨f0, f1, f2⟩ := held3 hb1 (b := w.heap.size) (v0 := .int .i64 s) (v1 := .slice A n c) (v2 := .slice A' n' c') (by first | omega | (simp; done) | (simp; omega)) (by simp [go_sem])
      clear KU hb1
      go_wp2_with fail
      refine (KL d d0 d1 _ hB1).out.mono ?_
      rintro e w2 ⟨A2, c2, A2', c2', rfl, hm2, hb2⟩
      have hB2 := after hB1 hb2
      have KL2' := KL2 _ c2 _ c2' _ hm2
      have KM' := KM _ c2 _ c2' _ hm2
      have KV' := KV _ c2 _ c2' _ hm2
      have F := fun W (hW : Below w1.heap.size w1 W) => Lib.hid (held3 hW hz1 ⟨f0, f1, f2⟩)
      have hs2 := hb2.size
      have hA2 := Lib.hid hb2
      clear f0 f1 f2 KL2 KM KV hm2 hb2
      go_wp2_with fail
      obtain ⟨b2, z2, g2⟩ := boxed3 w2 (.int .i64 s) (.slice A2 m c2) (.slice A2' n' c2') 25
      generalize (World.alloc w2 _) = W2 at *
      have B2 : Below w.heap.size w W2 := after hB2 b2
      have D2 : Below w1.heap.size w1 W2 := after hA2.out b2
      refine (KL2' _ b2).out.mono ?_
      rintro e w3 ⟨A3, c3, A3', c3', rfl, hm3, b3⟩
      have B3 := after B2 b3
      have D3 := after D2 b3
      obtain ⟨f0, f1, f2⟩ := (F _ D3).out
      have g3 := held3 b3 z2 g2
      have E3 := after b2 b3
      have hs3 := b3.size
      have hlt3 : w.heap.size < w3.heap.size := by have := D3.size; omega
      have hlt3' : w2.heap.size < w3.heap.size := by omega
      clear KL2' g2
      go_wp2_with fail
      obtain ⟨b3', z3, p3⟩ := boxed3 w3 (.int .i64 s) (.slice A3 m c3) (.slice A3' n' c3') 25
      generalize (World.alloc w3 _) = W3 at *
      have B4 := after B3 b3'
      have D4 := after D3 b3'
      have E4 := after E3 b3'
      refine (KL d2 e0 e1 _ B4).out.mono ?_
      rintro e w4 ⟨A4, c4, A4', c4', rfl, hm4, b4⟩
      have B5 := after B4 b4
      have D5 := after D4 b4
      have E5 := after E4 b4
      have p4 := held3 b4 z3 p3
      have g4 := held3 (after b3' b4) (by omega) g3
      have hs4 := b4.size
      have H5 := after b3' b4
      have hlt4 : w.heap.size < w4.heap.size := by have := D5.size; omega
      have hlt4' : w2.heap.size < w4.heap.size := by have := E5.size; omega
      have hlt4'' : w3.heap.size < w4.heap.size := by omega
      clear f0 f1 f2 g3 p3 KL
      obtain ⟨f0, f1, f2⟩ := (F _ D5).out
      obtain ⟨g0, g1, g2⟩ := g4
      obtain ⟨p0, p1, p2⟩ := p4
      go_wp2_with fail
      have KS' := KS _ c3 _ c3' _ _ c4 _ c4' _ hm3 hm4
      obtain ⟨b4', z4, p4⟩ := boxed3 w4 (.int .i64 s) (.slice A4 m c4) (.slice A4' n' c4') 25
      have hs4' := z4
      generalize (World.alloc w4 _) = W4 at *
      have B6 := after B5 b4'
      have D6 := after D5 b4'
      have E6 := after E5 b4'
      refine (KS' _ (after H5 b4') b4').out.mono ?_
      rintro e w5 ⟨rfl, b5⟩
      have B7 := after B6 b5
      have D7 := after D6 b5
      have E7 := after E6 b5
      clear f0 f1 f2 p0 p1 p2 p4 KS KS' hm3 hm4
      obtain ⟨f0, f1, f2⟩ := (F _ D7).out
      obtain ⟨g0, g1, g2⟩ := held3 (after b4' b5) hlt4' ⟨g0, g1, g2⟩
      go_wp2_with fail
      refine (KV' _ E7).out.mono ?_
      rintro e w6 ⟨rfl, b6⟩
      have B8 := after B7 b6
      have D8 := after D7 b6
      have E8 := after E7 b6
      have G := fun W (hW : Below w6.heap.size w6 W) => Lib.hid (held3 (after b6 hW) (by have := b4'.size; have := b5.size; omega) ⟨g0, g1, g2⟩)
      clear f0 f1 f2 g0 g1 g2
      have F6 := fun W (hW : Below w6.heap.size w6 W) => F W (after D8 hW)
      clear F b2 b3 b4 b5 b6 b3' b4' z2 z3 z4 B2 B3 B4 B5 B6 B7 D2 D3 D4 D5 D6 D7 E3 E4 E5 E6 E7 H5 hs2 hs3 hs4 hA2 hB1 hB2
      obtain ⟨f0, f1, f2⟩ := (F6 _ (Below.refl _ _)).out
      obtain ⟨g0, g1, g2⟩ := (G _ (Below.refl _ _)).out
      go_wp2_with fail
      go_loopw [111] (fun i wr => ∃ j : Nat, j ≤ m ∧ i = .int .i64 j ∧ Below w6.heap.size w6 wr) (fun i _ => m - (intOf i).toNat)
      case atStart => exact ⟨0, by omega, rfl, Below.refl _ _⟩
      case round =>
        obtain ⟨j, hj, rfl, hb⟩ := hrel
        clear f0 f1 f2 g0 g1 g2
        obtain ⟨f0, f1, f2⟩ := (F6 _ hb).out
        obtain ⟨g0, g1, g2⟩ := (G _ hb).out
        have hBr := after B8 hb
        have HB := Lib.hid hb
        have E8' := after E8 hb
        by_cases hlt : j < m
        · have KMj := KM' j hlt _ E8'
          obtain ⟨o1, o2⟩ := (hop j).out
          have bq := (BP (s + j)).out
          by_cases hjn : j < n
          · obtain ⟨x, b, o, hx, rfl, hbB, cx⟩ := (RD j hjn wr hBr).out
            obtain ⟨x1, x2, x3⟩ := hgn.out j x hx
            have KOj := KO j hjn
            rw [o1, x1] at KMj
            rw [o2, x1] at KOj
            generalize postedV L (s + j) = q at *
            have q1 : -4398046511104000 ≤ q := by omega
            have q2 : q ≤ 4398046511104000 := by omega
            have CX : ∀ W, Below w.heap.size w W → Hid (W.cell? ⟨b, o + j, none⟩ = some (.int .i64 x)) := fun W hW => by
              obtain ⟨x', b', o', hx', e, _, c'⟩ := (RD j hjn W hW).out
              cases e
              rw [hx] at hx'
              cases hx'
              exact c'
            have hji : (j : Int) < (n : Int) := by omega
            have hj0 : (0 : Int) ≤ (j : Int) := by omega
            have t1 : ((j : Int) == (n : Int)) = false := by rw [beq_eq_false_iff_ne]; omega
            by_cases hjk : j = k
            · subst hjk
              rw [if_pos rfl] at KMj
              have r1 : IntKind.i64.wrap (d - q - (x - q)) = d - x := by rw [show d - q - (x - q) = d - x by omega]; exact IntWalk.i64_in _ (by omega)
              have r2 : IntKind.i64.wrap (d - x) = d - x := IntWalk.i64_in _ (by omega)
              clear KM' KO KON KV' RD hop hgn BP hx o1 o2 x1 bq hb cx G
              go_wp2_with fail
              refine (KMj).out.mono ?_
              rintro e w7 ⟨rfl, b7⟩
              have A7 := after HB.out b7
              have B7 := after hBr b7
              clear f0 f1 f2 g0 g1 g2
              obtain ⟨f0, f1, f2⟩ := (F6 _ A7).out
              clear KMj
              go_wp2_with fail
              refine (KOj _ B7).out.mono ?_
              rintro e w8 ⟨rfl, b8⟩
              have A8 := after A7 b8
              have B8' := after B7 b8
              have HA := Lib.hid A8
              clear f0 f1 f2
              obtain ⟨f0, f1, f2⟩ := (F6 _ A8).out
              have cx := (CX _ B8').out
              clear A8 A7 b7 b8
              go_wp2
              go_roundw
              case rel => exact ⟨j + 1, by omega, by go_num, HA.out⟩
              case measure => simp [intOf]; omega
            · rw [if_neg hjk] at KMj
              have t2 : ((j : Int) == (k : Int)) = false := by rw [beq_eq_false_iff_ne]; omega
              clear KM' KO KON KV' RD hop hgn BP hx o1 o2 x1 bq hb cx G CX
              go_wp2_with fail
              refine (KMj).out.mono ?_
              rintro e w7 ⟨rfl, b7⟩
              have A7 := after HB.out b7
              have B7 := after hBr b7
              clear f0 f1 f2 g0 g1 g2
              obtain ⟨f0, f1, f2⟩ := (F6 _ A7).out
              clear KMj
              go_wp2_with fail
              refine (KOj _ B7).out.mono ?_
              rintro e w8 ⟨rfl, b8⟩
              have A8 := after A7 b8
              have B8' := after B7 b8
              have HA := Lib.hid A8
              clear f0 f1 f2
              obtain ⟨f0, f1, f2⟩ := (F6 _ A8).out
              skip
              clear A8 A7 b7 b8
              go_wp2
              go_roundw
              case rel => exact ⟨j + 1, by omega, by go_num, HA.out⟩
              case measure => simp [intOf]; omega
          · have hjn' : j = n := by omega
            have hjk : j = k := by omega
            subst hjn'
            rw [o1, if_pos hjk, hpn.out] at KMj
            subst hjk
            have d0' : d - 0 = d := by omega
            rw [d0'] at KMj
            clear KM' KO KV' RD hop hgn BP o1 o2 bq hb G
            go_wp2_with fail
            refine (KMj).out.mono ?_
            rintro e w7 ⟨rfl, b7⟩
            have A7 := after HB.out b7
            have B7 := after hBr b7
            clear f0 f1 f2 g0 g1 g2
            obtain ⟨f0, f1, f2⟩ := (F6 _ A7).out
            clear KMj
            go_wp2_with fail
            refine (KON _ B7).out.mono ?_
            rintro e w8 ⟨rfl, b8⟩
            have A8 := after A7 b8
            have B8' := after B7 b8
            have HA := Lib.hid A8
            clear f0 f1 f2
            obtain ⟨f0, f1, f2⟩ := (F6 _ A8).out
            skip
            clear A8 A7 b7 b8
            go_wp2
            go_roundw
            case rel => exact ⟨j + 1, by omega, by go_num, HA.out⟩
            case measure => simp [intOf]; omega
        · have hjm : j = m := by omega
          subst hjm
          clear KM' KO KON KV' RD hop hgn BP hb G
          go_wp2_with fail
          refine (KW _).out.mono ?_
          rintro e w7 ⟨rfl, b7⟩
          have B7 := after hBr b7
          clear f0 f1 f2 g0 g1 g2
          go_wp2
          go_ret
          exact ⟨rfl, B7⟩
end Go.Proofs.Ytmaojcjnpblffaa
