/- The walk of LedgerDays. -/
import Derived.Test.YtmaojcjnpblffaaLedDaysW
namespace Go.Proofs.Ytmaojcjnpblffaa
open Go.RowKit BigFrame
set_option linter.unusedVariables false

/-- A call that hands back the ledger L in memory of its own, and the error 0. -/
def GivesOwn (s : Int) (n n' : Nat) (L : Led) (w : World) (e : Ending) (w' : World) : Prop :=
  ∃ A c A' c', e = .returned (.tuple #[.agg #[.int .i64 s, .slice A n c, .slice A' n' c'], .int .i64 0]) ∧ OwnLed w' w.heap.size A c A' c' L ∧ Below w.heap.size w w'
theorem GivesLed.own_ {w : World} {L : Led} {e : Ending} {w' : World} (h : GivesLed w (L, 0) e w') {s : Int} {n n' : Nat} (hs : L.start = s) (hn : L.due.length = n) (hn' : L.posts.length = n') : GivesOwn s n n' L w e w' := by
  subst hs hn hn'
  exact h
theorem OwnLed.set {w : World} {base c c' : Nat} {A A' : Option Addr} {L : Led} (h : OwnLed w base A c A' c' L) {p : Addr} (hp : p.block < base) (u : Value) : OwnLed (w.setCell p u) base A c A' c' L :=
  ⟨ownsRow_setCell_below h.due hp u, ownsRow_setCell_below h.posts hp u⟩
theorem OwnLed.alloc {w : World} {base c c' : Nat} {A A' : Option Addr} {L : Led} (h : OwnLed w base A c A' c' L) (o : Obj) : OwnLed (w.alloc o) base A c A' c' L := ⟨h.due.alloc o, h.posts.alloc o⟩

set_option maxRecDepth 100000 in
set_option maxHeartbeats 8000000 in
theorem days_walk (A : Option Addr) (n c : Nat) (A' : Option Addr) (n' c' : Nat) (L : Led) (a b : Int) (w : World) (h : LedIn w w.heap.size A n A' n' L) (hc : n' ≤ c') (hc' : c' ≤ 9223372036854775807) (a0 : -9223372036854775808 ≤ a) (a1 : a ≤ 9223372036854775807) (b0 : -9223372036854775808 ≤ b) (b1 : b ≤ 9223372036854775807) :
    Calls Try.prog 9 #[.agg #[.int .i64 L.start, .slice A n c, .slice A' n' c'], .int .i64 a, .int .i64 b] w fun e w' => e = .returned (.bool true) ∧ Below w.heap.size w w' := by
  have KU := fun W hW => Lib.hid (usable_any A n c A' n' c' L W (h.to (w' := W) hW))
  have KW := fun W => Lib.hid (awake_any W)
  cases hu : usableB L
  · clear h
    go_enter Try.func9, Try.ntmps9
    go_wp2_with fail
    refine (KU _ (by go_grown)).out.mono ?_
    rintro e w1 ⟨rfl, hb1⟩
    have hB1 : Below w.heap.size w w1 := after (by go_grown) hb1
    clear KU hb1
    go_wp2_with fail
    refine (KW _).out.mono ?_
    rintro e w2 ⟨rfl, hb2⟩
    have hB2 := after hB1 hb2
    go_wp2
    go_ret
    exact ⟨rfl, hB2⟩
  · obtain ⟨u1, u2, hv⟩ := usable_here hu
    obtain ⟨⟨s0, s1, _⟩, hdue, _, _, hso⟩ := valid_here hv
    have hlen := h.due.len
    have hlen' := h.posts.len
    obtain ⟨lo, hi, hlo, hhi, hle, l0, l1, k0, k1⟩ : ∃ lo hi : Int, (if b < a then b else a) = lo ∧ (if a < b then b else a) = hi ∧ lo ≤ hi ∧ -9223372036854775808 ≤ lo ∧ lo ≤ 9223372036854775807 ∧ -9223372036854775808 ≤ hi ∧ hi ≤ 9223372036854775807 := ⟨_, _, rfl, rfl, by split <;> split <;> omega, by split <;> omega, by split <;> omega, by split <;> omega, by split <;> omega⟩
    obtain ⟨q, hq, hqe, hq1, hq2⟩ := cut_days lo L.posts hso
    rw [hlen'] at hq
    have hup : ∀ d, (upTo d L.posts).length ≤ n' := fun d => by rw [← hlen']; exact List.length_filter_le _ _
    obtain ⟨r, hr⟩ : ∃ r, (L.of hi).posts.length = r := ⟨_, rfl⟩
    have hql : (L.of lo).posts.length = q := by show (upTo lo L.posts).length = q; rw [hqe, List.length_take]; omega
    have wfp : ∀ d, ∀ p ∈ (L.of d).posts, p.wf := fun d p hp => h.wfp p (List.mem_filter.1 (show p ∈ upTo d L.posts from hp)).1
    have KA : ∀ W, Below w.heap.size w W → Hid (Calls Try.prog 23 #[.agg #[.int .i64 L.start, .slice A n c, .slice A' n' c'], .int .i64 lo] W (GivesIn L.start n q (L.of lo) W)) := by
      intro W hW
      have := at_any A n c A' n' c' L lo W (h.to hW)
      rw [at_ok hv] at this
      exact this.mono fun e w' hg => hg.in_ (wfp lo) h.wfd h.s0 h.s1 rfl hlen hql
    have KH : ∀ W, Below w.heap.size w W → Hid (Calls Try.prog 23 #[.agg #[.int .i64 L.start, .slice A n c, .slice A' n' c'], .int .i64 hi] W (GivesIn L.start n r (L.of hi) W)) := by
      intro W hW
      have := at_any A n c A' n' c' L hi W (h.to hW)
      rw [at_ok hv] at this
      exact this.mono fun e w' hg => hg.in_ (wfp hi) h.wfd h.s0 h.s1 rfl hlen hr
    have KZ : ∀ A1 c1 A1' c1' w1, LedIn w1 w1.heap.size A1 n A1' r (L.of hi) → ∀ W, Below w1.heap.size w1 W → Hid (Calls Try.prog 23 #[.agg #[.int .i64 L.start, .slice A1 n c1, .slice A1' r c1'], .int .i64 lo] W (GivesIn L.start n q (L.of lo) W)) := by
      intro A1 c1 A1' c1' w1 h1 W hW
      have := at_any A1 n c1 A1' r c1' (L.of hi) lo W (h1.to hW)
      rw [at_ok (L.of_valid hv hi), of_twice hle] at this
      exact this.mono fun e w' hg => hg.in_ (wfp lo) h.wfd h.s0 h.s1 rfl hlen hql
    have KS : ∀ A1 c1 A1' c1' w1 A2 c2 A2' c2' w2, LedIn w1 w1.heap.size A1 n A1' q (L.of lo) → LedIn w2 w2.heap.size A2 n A2' q (L.of lo) → ∀ W, Below w1.heap.size w1 W → Below w2.heap.size w2 W → Hid (Calls Try.prog 14 #[.agg #[.int .i64 L.start, .slice A1 n c1, .slice A1' q c1'], .agg #[.int .i64 L.start, .slice A2 n c2, .slice A2' q c2']] W fun e w' => e = .returned (.bool true) ∧ Below W.heap.size W w') := by
      intro A1 c1 A1' c1' w1 A2 c2 A2' c2' w2 h1 h2 W hW1 hW2
      exact same_true L.start (L.of lo).due (L.of lo).posts A1 A2 A1' A2' _ c1 c2 q c1' c2' W (h1.to hW1).due (h2.to hW2).due (h1.to hW1).posts (h2.to hW2).posts (by omega) (by omega)
    have KV : ∀ A1 c1 A1' c1' w1, LedIn w1 w1.heap.size A1 n A1' q (L.of lo) → ∀ W, Below w1.heap.size w1 W → Hid (Calls Try.prog 15 #[.agg #[.int .i64 L.start, .slice A1 n c1, .slice A1' q c1']] W fun e w' => e = .returned (.bool true) ∧ Below W.heap.size W w') := by
      intro A1 c1 A1' c1' w1 h1 W hW
      have := valid_any A1 _ c1 A1' q c1' (L.of lo) W (h1.to hW)
      rw [L.of_valid hv] at this
      exact this
    have KP : ∀ A1 c1 A1' c1' w1, LedIn w1 w1.heap.size A1 n A1' q (L.of lo) → ∀ W, Below w.heap.size w W → Below w1.heap.size w1 W → Hid (Calls Try.prog 29 #[.agg #[.int .i64 L.start, .slice A1 n c1, .slice A1' q c1'], .slice (if c' = q then A' else A'.map (·.add (q * 4))) (n' - q) (c' - q)] W (GivesOwn L.start n n' L W)) := by
      intro A1 c1 A1' c1' w1 h1 W hW hW1
      have := post_any A1 n c1 A1' q c1' (if c' = q then A' else A'.map (·.add (q * 4))) (n' - q) (c' - q) (L.of lo) (L.posts.drop q) W (h1.to hW1) ⟨by rw [List.length_drop, hlen'], by rw [← paids_drop]; exact (h.to hW).posts.reads.cut hq hc⟩ (by omega) fun p hp => h.wfp p (List.mem_of_mem_drop hp)
      rw [post_back hv hqe] at this
      exact this.mono fun e w' hg => hg.own_ rfl hlen hlen'
    have KT : ∀ A1 c1 A1' c1' w1 base, OwnLed w1 base A1 c1 A1' c1' L → Below w.heap.size w w1 → Hid (Calls Try.prog 14 #[.agg #[.int .i64 L.start, .slice A1 n c1, .slice A1' n' c1'], .agg #[.int .i64 L.start, .slice A n c, .slice A' n' c']] w1 fun e w' => e = .returned (.bool true) ∧ Below w1.heap.size w1 w') := by
      intro A1 c1 A1' c1' w1 base h1 hW
      have h2 := h1.led h.wfp h.wfd h.s0 h.s1
      rw [hlen, hlen'] at h2
      exact same_true L.start L.due L.posts A1 A A1' A' _ c1 c n' c1' c' w1 h2.due (h.to hW).due h2.posts (h.to hW).posts (by omega) (by omega)
    have RX : ∀ A1' n1 A1 w1, LedIn w1 w1.heap.size A1 n1 A1' q (L.of lo) → ∀ j, j < q → ∀ W, Below w1.heap.size w1 W → Hid (∃ x b o, L.posts[j]? = some x ∧ x.day ≤ lo ∧ A1' = some ⟨b, o, none⟩ ∧ b < w1.heap.size ∧ W.cell? ⟨b, o + j * 4, none⟩ = some (.int .i64 x.day) ∧ W.cell? ⟨b, o + j * 4 + 1, none⟩ = some (.int .i64 x.month) ∧ W.cell? ⟨b, o + j * 4 + 2, none⟩ = some (.int .u8 x.kind) ∧ W.cell? ⟨b, o + j * 4 + 3, none⟩ = some (.int .i64 x.amount)) := by
      intro A1' n1 A1 w1 h1 j hj W hW
      obtain ⟨x, b, o, hx, e, hb, c0, c1, c2, c3⟩ := (h1.posts.later (Nat.le_refl _) hW).at_ hj
      have hx' : L.posts[j]? = some x := by
        have hx2 : (upTo lo L.posts)[j]? = some x := hx
        rw [hqe, List.getElem?_take, if_pos hj] at hx2
        exact hx2
      exact ⟨x, b, o, hx', hq1 j x hj hx', e, hb, c0, c1, c2, c3⟩
    have RL : ∀ j, j < n' → ∀ W, Below w.heap.size w W → Hid (∃ x b o, L.posts[j]? = some x ∧ A' = some ⟨b, o, none⟩ ∧ b < w.heap.size ∧ W.cell? ⟨b, o + j * 4, none⟩ = some (.int .i64 x.day) ∧ W.cell? ⟨b, o + j * 4 + 1, none⟩ = some (.int .i64 x.month) ∧ W.cell? ⟨b, o + j * 4 + 2, none⟩ = some (.int .u8 x.kind) ∧ W.cell? ⟨b, o + j * 4 + 3, none⟩ = some (.int .i64 x.amount)) := by
      intro j hj W hW
      exact (h.posts.later (Nat.le_refl _) hW).at_ hj
    have hn40 : n ≤ 40 := by omega
    have hn60 : n' ≤ 60 := by omega
    have HQ := Lib.hid hq2
    clear h hdue hlen hlen' hv u1 u2 s1 hso hqe hq1 hq2 hup hql hr wfp
    generalize L.start = s at *
    go_enter Try.func9, Try.ntmps9
    go_wp2_with fail
    refine (KU _ (by go_grown)).out.mono ?_
    rintro e w1 ⟨rfl, hb1⟩
    have hB1 : Below w.heap.size w w1 := after (by go_grown) hb1
    have hz1 : w.heap.size < w1.heap.size := Nat.lt_of_lt_of_le (by first | omega | (simp; done) | (simp; omega)) hb1.size
    obtain ⟨f0, f1, f2⟩ := held3 hb1 (b := w.heap.size) (v0 := .int .i64 s) (v1 := .slice A n c) (v2 := .slice A' n' c') (by first | omega | (simp; done) | (simp; omega)) (by simp [go_sem])
    clear KU
    go_wp2_with fail
    refine (KA _ hB1).out.mono ?_
    rintro e w2 ⟨A2, c2, A2', c2', rfl, hm2, hb2⟩
    have B2 := after hB1 hb2
    have F := fun W (hW : Below w1.heap.size w1 W) => Lib.hid (held3 hW hz1 ⟨f0, f1, f2⟩)
    have D2 := hb2
    have hlt2 : w.heap.size < w2.heap.size := by have := D2.size; omega
    clear f0 f1 f2
    obtain ⟨f0, f1, f2⟩ := (F _ D2).out
    go_wp2_with fail
    obtain ⟨b2, z2, p2⟩ := boxed3 w2 (.int .i64 s) (.slice A2 n c2) (.slice A2' q c2') 25
    generalize (World.alloc w2 _) = W2 at *
    have B2' := after B2 b2
    have D2' := after D2 b2
    have G2 := fun W (hW : Below W2.heap.size W2 W) => Lib.hid (held3 hW z2 p2)
    refine (KH _ B2').out.mono ?_
    rintro e w3 ⟨A3, c3, A3', c3', rfl, hm3, hb3⟩
    have B3 := after B2' hb3
    have D3 := after D2' hb3
    have E3 := hb3
    have hlt3 : w.heap.size < w3.heap.size := by have := D3.size; omega
    have hlt3' : w2.heap.size < w3.heap.size := by have := E3.size; omega
    clear f0 f1 f2 p2 KA KH
    obtain ⟨f0, f1, f2⟩ := (F _ D3).out
    go_wp2_with fail
    obtain ⟨b3, z3, p3⟩ := boxed3 w3 (.int .i64 s) (.slice A3 n c3) (.slice A3' r c3') 25
    generalize (World.alloc w3 _) = W3 at *
    have B3' := after B3 b3
    have D3' := after D3 b3
    have E3' := after E3 b3
    refine (KZ _ _ _ _ _ hm3 _ b3).out.mono ?_
    rintro e w4 ⟨A4, c4, A4', c4', rfl, hm4, hb4⟩
    have B4 := after B3' hb4
    have D4 := after D3' hb4
    have E4 := after E3' hb4
    have hlt4 : w.heap.size < w4.heap.size := by have := D4.size; omega
    have hlt4' : w2.heap.size < w4.heap.size := by have := E4.size; omega
    clear f0 f1 f2 p3 KZ hm3
    obtain ⟨f0, f1, f2⟩ := (F _ D4).out
    obtain ⟨g0, g1, g2⟩ := (G2 _ E4).out
    go_wp2_with fail
    obtain ⟨b4, z4, p4⟩ := boxed3 w4 (.int .i64 s) (.slice A4 n c4) (.slice A4' q c4') 25
    generalize (World.alloc w4 _) = W4 at *
    have B4' := after B4 b4
    have D4' := after D4 b4
    have E4' := after E4 b4
    have I4' : Below w2.heap.size w2 W4 := after b2 E4'
    have RX' := RX _ _ _ _ hm2
    have KP' := KP _ c2 _ c2' _ hm2
    refine (KS _ c2 _ c2' _ _ c4 _ c4' _ hm2 hm4 _ I4' b4).out.mono ?_
    rintro e w5 ⟨rfl, hb5⟩
    have B5 := after B4' hb5
    have D5 := after D4' hb5
    have E5 := after E4' hb5
    have I5 := after I4' hb5
    clear f0 f1 f2 g0 g1 g2 p4 KS hm4 RX KP
    obtain ⟨f0, f1, f2⟩ := (F _ D5).out
    obtain ⟨g0, g1, g2⟩ := (G2 _ E5).out
    go_wp2_with fail
    refine (KV _ _ _ _ _ hm2 _ I5).out.mono ?_
    rintro e w6 ⟨rfl, hb6⟩
    have B6 := after B5 hb6
    have D6 := after D5 hb6
    have E6 := after E5 hb6
    have I6 := after I5 hb6
    clear f0 f1 f2 g0 g1 g2 KV hm2
    obtain ⟨f0, f1, f2⟩ := (F _ D6).out
    obtain ⟨g0, g1, g2⟩ := (G2 _ E6).out
    have hw6 : w.heap.size < w6.heap.size := by have := D6.size; omega
    have hw6' : w2.heap.size < w6.heap.size := by have := I6.size; have := E6.size; omega
    clear hb1 hb2 hb3 hb4 hb5 hb6 b2 b3 b4 B2 B2' B3 B3' B4 B4' B5 D2 D2' D3 D3' D4 D4' D5 E3 E3' E4 E4' E5 I4' I5 z2 z3 z4 hlt2 hlt3 hlt3' hlt4 hlt4' hB1
    go_wp2_with fail
    have F6 := fun W (hW : Below w6.heap.size w6 W) => F W (after D6 hW)
    have G6 := fun W (hW : Below w6.heap.size w6 W) => G2 W (after E6 hW)
    clear F G2 E6 D6
    have hqi : (q : Int) ≤ (n' : Int) := by omega
    go_loopw [76] (fun i wr => ∃ j : Nat, j ≤ q ∧ i = .int .i64 j ∧ Below w6.heap.size w6 wr) (fun i _ => q - (intOf i).toNat)
    case atStart => exact ⟨0, by omega, rfl, Below.refl _ _⟩
    case round =>
      obtain ⟨j, hj, rfl, hb⟩ := hrel
      clear f0 f1 f2 g0 g1 g2
      have hBr := after B6 hb
      have HB := Lib.hid hb
      have Ir := after I6 hb
      by_cases hlt : j < q
      · obtain ⟨x, b2, o2, hx, hxd, rfl, hb2, x0, x1, x2, x3⟩ := (RX' j hlt wr Ir).out
        obtain ⟨y, b3, o3, hy, rfl, hb3, y0, y1, y2, y3⟩ := (RL j (by omega) wr hBr).out
        obtain rfl : x = y := by rw [hx] at hy; injection hy
        have s1 : w.heap.size < wr.heap.size := by have := hb.size; omega
        have s2 : w2.heap.size < wr.heap.size := by have := hb.size; omega
        have s3 : b3 < wr.heap.size := by omega
        obtain ⟨f0, f1, f2⟩ := (F6 _ hb).out
        obtain ⟨g0, g1, g2⟩ := (G6 _ hb).out
        clear RX' RL KP' HQ KT F6 G6 hx hy hb f0 f1
        have hji : (j : Int) < (q : Int) := by omega
        have hji' : (j : Int) < (n' : Int) := by omega
        have hj0 : (0 : Int) ≤ (j : Int) := by omega
        go_wp2_with fail
        have hBw : Below w6.heap.size w6 (wr.alloc (.cells #[.int .i64 x.day, .int .i64 x.month, .int .u8 x.kind, .int .i64 x.amount] 47)) := by
          have := HB.out
          have hs := this.size
          go_grown
        have hh : (wr.alloc (.cells #[.int .i64 x.day, .int .i64 x.month, .int .u8 x.kind, .int .i64 x.amount] 47)).heap[wr.heap.size]? = some (.cells #[.int .i64 x.day, .int .i64 x.month, .int .u8 x.kind, .int .i64 x.amount] 47 (0, 0)) := heap_at rfl
        have hAl := World.grownBy_alloc wr (.cells #[.int .i64 x.day, .int .i64 x.month, .int .u8 x.kind, .int .i64 x.amount] 47) none
        have hz5 : wr.heap.size < (wr.alloc (.cells #[.int .i64 x.day, .int .i64 x.month, .int .u8 x.kind, .int .i64 x.amount] 47)).heap.size := by simp
        generalize (World.alloc wr _) = W5 at *
        have X0 := fun p : Later W5 => p.cell hz5 (cell_of_row W5 _ 0 _ _ _ hh)
        have X1 := fun p : Later W5 => p.cell hz5 (cell_of_row W5 _ 1 _ _ _ hh)
        have X2 := fun p : Later W5 => p.cell hz5 (cell_of_row W5 _ 2 _ _ _ hh)
        have X3 := fun p : Later W5 => p.cell hz5 (cell_of_row W5 _ 3 _ _ _ hh)
        have F2 := fun p : Later W5 => p.cell (by dsimp only; omega) ((grown_cell hAl s1 (by simp) 2).1.trans f2)
        have Y0 := fun p : Later W5 => p.cell (by dsimp only; omega) ((grown_cell hAl s3 (by simp) (o3 + j * 4)).1.trans y0)
        have Y1 := fun p : Later W5 => p.cell (by dsimp only; omega) ((grown_cell hAl s3 (by simp) (o3 + j * 4 + 1)).1.trans y1)
        have Y2 := fun p : Later W5 => p.cell (by dsimp only; omega) ((grown_cell hAl s3 (by simp) (o3 + j * 4 + 2)).1.trans y2)
        have Y3 := fun p : Later W5 => p.cell (by dsimp only; omega) ((grown_cell hAl s3 (by simp) (o3 + j * 4 + 3)).1.trans y3)
        have NE := neq_same x
        have t1 : decide (lo < x.day) = false := decide_eq_false (by omega)
        have HB5 := Lib.hid hBw
        clear f2 g0 g1 g2 x0 x1 x2 x3 y0 y1 y2 y3 hAl hh hBw HB hBr Ir
        (refine wp_region_later (by kernel_rfl) (by kernel_rfl) ?_; (repeat (first | go_big_quiet_step ((fail)) | quiet_step ((fail)))); refine wpQuiet_nil ?_; intro _ hw1; obtain ⟨pq, hw2⟩ := hw1; subst hw2)
        clear X0 X1 X2 X3 F2 Y0 Y1 Y2 Y3 NE t1
        go_wp2
        go_roundw
        case rel => exact ⟨j + 1, by omega, by go_num, after HB5.out pq.ok⟩
        case measure => simp [intOf]; omega
      · have hjq : j = q := by omega
        subst hjq
        obtain ⟨f0, f1, f2⟩ := (F6 _ hb).out
        obtain ⟨g0, g1, g2⟩ := (G6 _ hb).out
        have hlw : w.heap.size < wr.heap.size := by have := hb.size; omega
        have hlw' : w2.heap.size < wr.heap.size := by have := hb.size; omega
        by_cases hqn : j < n'
        · obtain ⟨y, b3, o3, hy, rfl, hb3, y0, y1, y2, y3⟩ := (RL j hqn wr hBr).out
          have hyd := HQ.out y hy
          have t1 : decide (y.day ≤ lo) = false := decide_eq_false (by omega)
          have hji : (j : Int) < (n' : Int) := by omega
          have hj0 : (0 : Int) ≤ (j : Int) := by omega
          clear RX' RL hy hyd HQ
          go_wp2_with fail
          have hcj : ¬ c' = j := by omega
          have KPr := fun W (hW : Below wr.heap.size wr W) => KP' W (after hBr hW) (after Ir hW)
          simp only [Option.map_some, Addr.add_lit, if_neg hcj] at KPr
          have HBR := Lib.hid hBr
          have hcc : j ≤ c' := by omega
          have hcc1 : (j : Int) ≤ (c' : Int) := by omega
          have hcc2 : (n' : Int) ≤ (c' : Int) := by omega
          have ne1 : ¬ wr.heap.size = w.heap.size := by omega
          have ne2 : ¬ wr.heap.size = w2.heap.size := by omega
          have ne1' : ¬ w.heap.size = wr.heap.size := by omega
          have ne2' : ¬ w2.heap.size = wr.heap.size := by omega
          clear KP' hBr Ir hb HB I6 B6 F6 G6
          go_region_held3 (fun W => (W.cell? ⟨w.heap.size, 0, none⟩ = some (.int .i64 s) ∧ W.cell? ⟨w.heap.size, 1, none⟩ = some (.slice A n c) ∧ W.cell? ⟨w.heap.size, 2, none⟩ = some (.slice (some ⟨b3, o3, none⟩) n' c')) ∧ (W.cell? ⟨w2.heap.size, 0, none⟩ = some (.int .i64 s) ∧ W.cell? ⟨w2.heap.size, 1, none⟩ = some (.slice A2 n c2) ∧ W.cell? ⟨w2.heap.size, 2, none⟩ = some (.slice A2' j c2'))) (first | exact hS1 | go_keep) (first | (go_at_call 29; go_must (refine (KPr _ (by go_grown)).out.mono ?_; rintro e w7 ⟨A7, c7, A7', c7', rfl, hm7, hb7⟩; (try (have hz7 : wr.heap.size < w7.heap.size := Nat.lt_of_lt_of_le (by first | (simp; done) | (simp; omega)) hb7.size)); have ne3 : ¬ w7.heap.size = w.heap.size := (by have := hb7.size; simp at this; omega); have ne4 : ¬ w7.heap.size = w2.heap.size := (by have := hb7.size; simp at this; omega); obtain ⟨hc7, hf7⟩ := bcell hb7; have hS1 := And.intro (held3 (b := w.heap.size) (v0 := .int .i64 s) (v1 := .slice A n c) (v2 := .slice (some ⟨b3, o3, none⟩) n' c') hb7 (by first | omega | (simp; done) | (simp; omega)) (by first | (exact ⟨f0, f1, f2⟩) | simp [go_sem, f0, f1, f2, hlw])) (held3 (b := w2.heap.size) (v0 := .int .i64 s) (v1 := .slice A2 n c2) (v2 := .slice A2' j c2') hb7 (by first | omega | (simp; done) | (simp; omega)) (by first | (exact ⟨g0, g1, g2⟩) | simp [go_sem, g0, g1, g2, hlw'])))))
          · have HO := hm7.alloc (.cells #[.int .i64 s, .slice A7 n c7, .slice A7' n' c7'] 25)
            have hb7' : Below wr.heap.size wr w7 := by first | exact after (Below.refl _ wr).drew hb7 | exact after ((Below.refl _ wr).drew.alloc (Nat.le_refl _) _) hb7
            have hb7s := hb7'.size
            have HBq : Below wr.heap.size wr (w7.alloc (.cells #[.int .i64 s, .slice A7 n c7, .slice A7' n' c7'] 25)) := by go_grown
            obtain ⟨_, z7, q7⟩ := boxed3 w7 (.int .i64 s) (.slice A7 n c7) (.slice A7' n' c7') 25
            generalize (World.alloc w7 _) = W8 at *
            obtain ⟨a0', a1', a2'⟩ := held3 HBq hlw ⟨f0, f1, f2⟩
            obtain ⟨q0, q1, q2⟩ := q7
            have KTf := KT _ c7 _ c7' _ _ HO (after HBR.out HBq)
            have B8 := after HBR.out HBq
            clear HBq HBR HO hb7 hb7' hc7 hf7 hS1 f0 f1 f2 g0 g1 g2 KT KPr
            go_wp2_with fail
            refine KTf.out.mono ?_
            rintro e w9 ⟨rfl, hb9⟩
            have B9 := after B8 hb9
            go_wp2_with fail
            refine (KW _).out.mono ?_
            rintro e w10 ⟨rfl, hb10⟩
            have B10 := after B9 hb10
            go_wp2
            go_ret
            exact ⟨rfl, B10⟩
          · have HO := (((hm7.set (p := ⟨wr.heap.size, 0, none⟩) (by simp) (.int .i64 s)).set (p := ⟨wr.heap.size, 1, none⟩) (by simp) (.slice A7 n c7)).set (p := ⟨wr.heap.size, 2, none⟩) (by simp) (.slice A7' n' c7'))
            have hb7' : Below wr.heap.size wr w7 := by first | exact after (Below.refl _ wr).drew hb7 | exact after ((Below.refl _ wr).drew.alloc (Nat.le_refl _) _) hb7
            have hb7s := hb7'.size
            have HBq : Below wr.heap.size wr (((w7.setCell ⟨wr.heap.size, 0, none⟩ (.int .i64 s)).setCell ⟨wr.heap.size, 1, none⟩ (.slice A7 n c7)).setCell ⟨wr.heap.size, 2, none⟩ (.slice A7' n' c7')) := by go_grown
            have q7 : (((w7.setCell ⟨wr.heap.size, 0, none⟩ (.int .i64 s)).setCell ⟨wr.heap.size, 1, none⟩ (.slice A7 n c7)).setCell ⟨wr.heap.size, 2, none⟩ (.slice A7' n' c7')).cell? ⟨wr.heap.size, 0, none⟩ = some (.int .i64 s) ∧ (((w7.setCell ⟨wr.heap.size, 0, none⟩ (.int .i64 s)).setCell ⟨wr.heap.size, 1, none⟩ (.slice A7 n c7)).setCell ⟨wr.heap.size, 2, none⟩ (.slice A7' n' c7')).cell? ⟨wr.heap.size, 1, none⟩ = some (.slice A7 n c7) ∧ (((w7.setCell ⟨wr.heap.size, 0, none⟩ (.int .i64 s)).setCell ⟨wr.heap.size, 1, none⟩ (.slice A7 n c7)).setCell ⟨wr.heap.size, 2, none⟩ (.slice A7' n' c7')).cell? ⟨wr.heap.size, 2, none⟩ = some (.slice A7' n' c7') := by
              refine ⟨?_, ?_, ?_⟩ <;> simp [go_sem, hc7]
            generalize (World.setCell _ _ _) = W8 at *
            obtain ⟨a0', a1', a2'⟩ := held3 HBq hlw ⟨f0, f1, f2⟩
            obtain ⟨q0, q1, q2⟩ := q7
            have KTf := KT _ c7 _ c7' _ _ HO (after HBR.out HBq)
            have B8 := after HBR.out HBq
            clear HBq HBR HO hb7 hb7' hc7 hf7 hS1 f0 f1 f2 g0 g1 g2 KT KPr
            go_wp2_with fail
            refine KTf.out.mono ?_
            rintro e w9 ⟨rfl, hb9⟩
            have B9 := after B8 hb9
            go_wp2_with fail
            refine (KW _).out.mono ?_
            rintro e w10 ⟨rfl, hb10⟩
            have B10 := after B9 hb10
            go_wp2
            go_ret
            exact ⟨rfl, B10⟩
        · have hjn : j = n' := by omega
          subst hjn
          clear RX' RL HQ
          go_wp2_with fail
          by_cases hcj : c' = j
          · have hcj' := hcj.symm
            subst hcj'
            have KPr := fun W (hW : Below wr.heap.size wr W) => KP' W (after hBr hW) (after Ir hW)
            simp only [Nat.sub_self] at KPr
            have HBR := Lib.hid hBr
            have hcc : j ≤ j := by omega
            have hcc1 : (j : Int) ≤ (j : Int) := by omega
            skip
            have ne1 : ¬ wr.heap.size = w.heap.size := by omega
            have ne2 : ¬ wr.heap.size = w2.heap.size := by omega
            have ne1' : ¬ w.heap.size = wr.heap.size := by omega
            have ne2' : ¬ w2.heap.size = wr.heap.size := by omega
            clear KP' hBr Ir hb HB I6 B6 F6 G6
            go_region_held3 (fun W => (W.cell? ⟨w.heap.size, 0, none⟩ = some (.int .i64 s) ∧ W.cell? ⟨w.heap.size, 1, none⟩ = some (.slice A n c) ∧ W.cell? ⟨w.heap.size, 2, none⟩ = some (.slice A' j j)) ∧ (W.cell? ⟨w2.heap.size, 0, none⟩ = some (.int .i64 s) ∧ W.cell? ⟨w2.heap.size, 1, none⟩ = some (.slice A2 n c2) ∧ W.cell? ⟨w2.heap.size, 2, none⟩ = some (.slice A2' j c2'))) (first | exact hS1 | go_keep) (first | (go_at_call 29; go_must (refine (KPr _ (by go_grown)).out.mono ?_; rintro e w7 ⟨A7, c7, A7', c7', rfl, hm7, hb7⟩; (try (have hz7 : wr.heap.size < w7.heap.size := Nat.lt_of_lt_of_le (by first | (simp; done) | (simp; omega)) hb7.size)); have ne3 : ¬ w7.heap.size = w.heap.size := (by have := hb7.size; simp at this; omega); have ne4 : ¬ w7.heap.size = w2.heap.size := (by have := hb7.size; simp at this; omega); obtain ⟨hc7, hf7⟩ := bcell hb7; have hS1 := And.intro (held3 (b := w.heap.size) (v0 := .int .i64 s) (v1 := .slice A n c) (v2 := .slice A' j j) hb7 (by first | omega | (simp; done) | (simp; omega)) (by first | (exact ⟨f0, f1, f2⟩) | simp [go_sem, f0, f1, f2, hlw])) (held3 (b := w2.heap.size) (v0 := .int .i64 s) (v1 := .slice A2 n c2) (v2 := .slice A2' j c2') hb7 (by first | omega | (simp; done) | (simp; omega)) (by first | (exact ⟨g0, g1, g2⟩) | simp [go_sem, g0, g1, g2, hlw'])))))
            · have HO := hm7.alloc (.cells #[.int .i64 s, .slice A7 n c7, .slice A7' j c7'] 25)
              have hb7' : Below wr.heap.size wr w7 := by first | exact after (Below.refl _ wr).drew hb7 | exact after ((Below.refl _ wr).drew.alloc (Nat.le_refl _) _) hb7
              have hb7s := hb7'.size
              have HBq : Below wr.heap.size wr (w7.alloc (.cells #[.int .i64 s, .slice A7 n c7, .slice A7' j c7'] 25)) := by go_grown
              obtain ⟨_, z7, q7⟩ := boxed3 w7 (.int .i64 s) (.slice A7 n c7) (.slice A7' j c7') 25
              generalize (World.alloc w7 _) = W8 at *
              obtain ⟨a0', a1', a2'⟩ := held3 HBq hlw ⟨f0, f1, f2⟩
              obtain ⟨q0, q1, q2⟩ := q7
              have KTf := KT _ c7 _ c7' _ _ HO (after HBR.out HBq)
              have B8 := after HBR.out HBq
              clear HBq HBR HO hb7 hb7' hc7 hf7 hS1 f0 f1 f2 g0 g1 g2 KT KPr
              go_wp2_with fail
              refine KTf.out.mono ?_
              rintro e w9 ⟨rfl, hb9⟩
              have B9 := after B8 hb9
              go_wp2_with fail
              refine (KW _).out.mono ?_
              rintro e w10 ⟨rfl, hb10⟩
              have B10 := after B9 hb10
              go_wp2
              go_ret
              exact ⟨rfl, B10⟩
            · have HO := (((hm7.set (p := ⟨wr.heap.size, 0, none⟩) (by simp) (.int .i64 s)).set (p := ⟨wr.heap.size, 1, none⟩) (by simp) (.slice A7 n c7)).set (p := ⟨wr.heap.size, 2, none⟩) (by simp) (.slice A7' j c7'))
              have hb7' : Below wr.heap.size wr w7 := by first | exact after (Below.refl _ wr).drew hb7 | exact after ((Below.refl _ wr).drew.alloc (Nat.le_refl _) _) hb7
              have hb7s := hb7'.size
              have HBq : Below wr.heap.size wr (((w7.setCell ⟨wr.heap.size, 0, none⟩ (.int .i64 s)).setCell ⟨wr.heap.size, 1, none⟩ (.slice A7 n c7)).setCell ⟨wr.heap.size, 2, none⟩ (.slice A7' j c7')) := by go_grown
              have q7 : (((w7.setCell ⟨wr.heap.size, 0, none⟩ (.int .i64 s)).setCell ⟨wr.heap.size, 1, none⟩ (.slice A7 n c7)).setCell ⟨wr.heap.size, 2, none⟩ (.slice A7' j c7')).cell? ⟨wr.heap.size, 0, none⟩ = some (.int .i64 s) ∧ (((w7.setCell ⟨wr.heap.size, 0, none⟩ (.int .i64 s)).setCell ⟨wr.heap.size, 1, none⟩ (.slice A7 n c7)).setCell ⟨wr.heap.size, 2, none⟩ (.slice A7' j c7')).cell? ⟨wr.heap.size, 1, none⟩ = some (.slice A7 n c7) ∧ (((w7.setCell ⟨wr.heap.size, 0, none⟩ (.int .i64 s)).setCell ⟨wr.heap.size, 1, none⟩ (.slice A7 n c7)).setCell ⟨wr.heap.size, 2, none⟩ (.slice A7' j c7')).cell? ⟨wr.heap.size, 2, none⟩ = some (.slice A7' j c7') := by
                refine ⟨?_, ?_, ?_⟩ <;> simp [go_sem, hc7]
              generalize (World.setCell _ _ _) = W8 at *
              obtain ⟨a0', a1', a2'⟩ := held3 HBq hlw ⟨f0, f1, f2⟩
              obtain ⟨q0, q1, q2⟩ := q7
              have KTf := KT _ c7 _ c7' _ _ HO (after HBR.out HBq)
              have B8 := after HBR.out HBq
              clear HBq HBR HO hb7 hb7' hc7 hf7 hS1 f0 f1 f2 g0 g1 g2 KT KPr
              go_wp2_with fail
              refine KTf.out.mono ?_
              rintro e w9 ⟨rfl, hb9⟩
              have B9 := after B8 hb9
              go_wp2_with fail
              refine (KW _).out.mono ?_
              rintro e w10 ⟨rfl, hb10⟩
              have B10 := after B9 hb10
              go_wp2
              go_ret
              exact ⟨rfl, B10⟩
          · skip
            have KPr := fun W (hW : Below wr.heap.size wr W) => KP' W (after hBr hW) (after Ir hW)
            simp only [Nat.sub_self, if_neg hcj] at KPr
            have HBR := Lib.hid hBr
            have hcc : j ≤ c' := by omega
            have hcc1 : (j : Int) ≤ (c' : Int) := by omega
            skip
            have ne1 : ¬ wr.heap.size = w.heap.size := by omega
            have ne2 : ¬ wr.heap.size = w2.heap.size := by omega
            have ne1' : ¬ w.heap.size = wr.heap.size := by omega
            have ne2' : ¬ w2.heap.size = wr.heap.size := by omega
            clear KP' hBr Ir hb HB I6 B6 F6 G6
            go_region_held3 (fun W => (W.cell? ⟨w.heap.size, 0, none⟩ = some (.int .i64 s) ∧ W.cell? ⟨w.heap.size, 1, none⟩ = some (.slice A n c) ∧ W.cell? ⟨w.heap.size, 2, none⟩ = some (.slice A' j c')) ∧ (W.cell? ⟨w2.heap.size, 0, none⟩ = some (.int .i64 s) ∧ W.cell? ⟨w2.heap.size, 1, none⟩ = some (.slice A2 n c2) ∧ W.cell? ⟨w2.heap.size, 2, none⟩ = some (.slice A2' j c2'))) (first | exact hS1 | go_keep) (first | (go_at_call 29; go_must (refine (KPr _ (by go_grown)).out.mono ?_; rintro e w7 ⟨A7, c7, A7', c7', rfl, hm7, hb7⟩; (try (have hz7 : wr.heap.size < w7.heap.size := Nat.lt_of_lt_of_le (by first | (simp; done) | (simp; omega)) hb7.size)); have ne3 : ¬ w7.heap.size = w.heap.size := (by have := hb7.size; simp at this; omega); have ne4 : ¬ w7.heap.size = w2.heap.size := (by have := hb7.size; simp at this; omega); obtain ⟨hc7, hf7⟩ := bcell hb7; have hS1 := And.intro (held3 (b := w.heap.size) (v0 := .int .i64 s) (v1 := .slice A n c) (v2 := .slice A' j c') hb7 (by first | omega | (simp; done) | (simp; omega)) (by first | (exact ⟨f0, f1, f2⟩) | simp [go_sem, f0, f1, f2, hlw])) (held3 (b := w2.heap.size) (v0 := .int .i64 s) (v1 := .slice A2 n c2) (v2 := .slice A2' j c2') hb7 (by first | omega | (simp; done) | (simp; omega)) (by first | (exact ⟨g0, g1, g2⟩) | simp [go_sem, g0, g1, g2, hlw'])))))
            · have HO := hm7.alloc (.cells #[.int .i64 s, .slice A7 n c7, .slice A7' j c7'] 25)
              have hb7' : Below wr.heap.size wr w7 := by first | exact after (Below.refl _ wr).drew hb7 | exact after ((Below.refl _ wr).drew.alloc (Nat.le_refl _) _) hb7
              have hb7s := hb7'.size
              have HBq : Below wr.heap.size wr (w7.alloc (.cells #[.int .i64 s, .slice A7 n c7, .slice A7' j c7'] 25)) := by go_grown
              obtain ⟨_, z7, q7⟩ := boxed3 w7 (.int .i64 s) (.slice A7 n c7) (.slice A7' j c7') 25
              generalize (World.alloc w7 _) = W8 at *
              obtain ⟨a0', a1', a2'⟩ := held3 HBq hlw ⟨f0, f1, f2⟩
              obtain ⟨q0, q1, q2⟩ := q7
              have KTf := KT _ c7 _ c7' _ _ HO (after HBR.out HBq)
              have B8 := after HBR.out HBq
              clear HBq HBR HO hb7 hb7' hc7 hf7 hS1 f0 f1 f2 g0 g1 g2 KT KPr
              go_wp2_with fail
              refine KTf.out.mono ?_
              rintro e w9 ⟨rfl, hb9⟩
              have B9 := after B8 hb9
              go_wp2_with fail
              refine (KW _).out.mono ?_
              rintro e w10 ⟨rfl, hb10⟩
              have B10 := after B9 hb10
              go_wp2
              go_ret
              exact ⟨rfl, B10⟩
            · have HO := (((hm7.set (p := ⟨wr.heap.size, 0, none⟩) (by simp) (.int .i64 s)).set (p := ⟨wr.heap.size, 1, none⟩) (by simp) (.slice A7 n c7)).set (p := ⟨wr.heap.size, 2, none⟩) (by simp) (.slice A7' j c7'))
              have hb7' : Below wr.heap.size wr w7 := by first | exact after (Below.refl _ wr).drew hb7 | exact after ((Below.refl _ wr).drew.alloc (Nat.le_refl _) _) hb7
              have hb7s := hb7'.size
              have HBq : Below wr.heap.size wr (((w7.setCell ⟨wr.heap.size, 0, none⟩ (.int .i64 s)).setCell ⟨wr.heap.size, 1, none⟩ (.slice A7 n c7)).setCell ⟨wr.heap.size, 2, none⟩ (.slice A7' j c7')) := by go_grown
              have q7 : (((w7.setCell ⟨wr.heap.size, 0, none⟩ (.int .i64 s)).setCell ⟨wr.heap.size, 1, none⟩ (.slice A7 n c7)).setCell ⟨wr.heap.size, 2, none⟩ (.slice A7' j c7')).cell? ⟨wr.heap.size, 0, none⟩ = some (.int .i64 s) ∧ (((w7.setCell ⟨wr.heap.size, 0, none⟩ (.int .i64 s)).setCell ⟨wr.heap.size, 1, none⟩ (.slice A7 n c7)).setCell ⟨wr.heap.size, 2, none⟩ (.slice A7' j c7')).cell? ⟨wr.heap.size, 1, none⟩ = some (.slice A7 n c7) ∧ (((w7.setCell ⟨wr.heap.size, 0, none⟩ (.int .i64 s)).setCell ⟨wr.heap.size, 1, none⟩ (.slice A7 n c7)).setCell ⟨wr.heap.size, 2, none⟩ (.slice A7' j c7')).cell? ⟨wr.heap.size, 2, none⟩ = some (.slice A7' j c7') := by
                refine ⟨?_, ?_, ?_⟩ <;> simp [go_sem, hc7]
              generalize (World.setCell _ _ _) = W8 at *
              obtain ⟨a0', a1', a2'⟩ := held3 HBq hlw ⟨f0, f1, f2⟩
              obtain ⟨q0, q1, q2⟩ := q7
              have KTf := KT _ c7 _ c7' _ _ HO (after HBR.out HBq)
              have B8 := after HBR.out HBq
              clear HBq HBR HO hb7 hb7' hc7 hf7 hS1 f0 f1 f2 g0 g1 g2 KT KPr
              go_wp2_with fail
              refine KTf.out.mono ?_
              rintro e w9 ⟨rfl, hb9⟩
              have B9 := after B8 hb9
              go_wp2_with fail
              refine (KW _).out.mono ?_
              rintro e w10 ⟨rfl, hb10⟩
              have B10 := after B9 hb10
              go_wp2
              go_ret
              exact ⟨rfl, B10⟩
end Go.Proofs.Ytmaojcjnpblffaa
