/- usable, the chapter's example, awake. -/
import Derived.Test.YtmaojcjnpblffaaLedK
namespace Go.Proofs.Ytmaojcjnpblffaa
open Go.RowKit BigFrame

def usableB (L : Led) : Bool := decide (L.due.length ≤ 40 ∧ L.posts.length ≤ 60) && validB L

set_option maxHeartbeats 1000000 in
theorem usable_any (A : Option Addr) (n c : Nat) (A' : Option Addr) (n' c' : Nat) (L : Led) (w : World) (h : LedIn w w.heap.size A n A' n' L) :
    Calls Try.prog 11 #[.agg #[.int .i64 L.start, .slice A n c, .slice A' n' c']] w fun e w' => e = .returned (.bool (usableB L)) ∧ Below w.heap.size w w' := by
  have KV := fun W hW => Lib.hid (valid_any A n c A' n' c' L W (h.to (w' := W) hW))
  have hu : usableB L = (decide (n ≤ 40 ∧ n' ≤ 60) && validB L) := by unfold usableB; rw [h.due.len, h.posts.len]
  rw [hu]
  have n0 := h.n0
  have n1 := h.n1
  clear hu h
  by_cases h1 : n ≤ 40 ∧ n' ≤ 60
  · rw [decide_eq_true h1, Bool.true_and]
    obtain ⟨a1, a2⟩ := h1
    go_enter Try.func11, Try.ntmps11
    go_wp2_with fail
    refine (KV _ (by go_grown)).out.mono ?_
    rintro e w1 ⟨rfl, hb1⟩
    have hB1 : Below w.heap.size w w1 := after (by go_grown) hb1
    clear KV hb1
    go_wp2
    go_ret
    exact ⟨rfl, hB1⟩
  · rw [decide_eq_false h1, Bool.false_and]
    go_enter Try.func11, Try.ntmps11
    clear KV
    by_cases a1 : n ≤ 40
    · have a2 : 60 < n' := by omega
      clear h1
      go_wp2_with fail
      go_ret
      exact ⟨rfl, by go_grown⟩
    · have a2 : 40 < n := by omega
      clear h1
      go_wp2_with fail
      go_ret
      exact ⟨rfl, by go_grown⟩

def exL : Led := ⟨1500, [100, 100, 120], [⟨45000, 1500, 1, 100⟩, ⟨45000, 1501, 1, 90⟩, ⟨45000, 1501, 3, 3⟩, ⟨45030, 1502, 1, 150⟩, ⟨45030, 1502, 4, -20⟩]⟩

theorem heap_at {w : World} {o : Obj} {b : Nat} (hb : b = w.heap.size) : (w.alloc o).heap[b]? = some o := by subst hb; exact heap_alloc_new _ _
theorem reads_block {w : World} {b B size n : Nat} {cs : Array Value} {t : TypeId} {fr : Nat × Nat} {xs : List Value} (hb : b < B) (hh : w.heap[b]? = some (.cells cs t fr)) (hx : cs.toList = xs) (hl : xs.length = n * size) : Reads w B size (some ⟨b, 0, none⟩) n xs :=
  ⟨hl, fun _ => ⟨b, 0, rfl, hb, fun j u hu => by rw [Nat.zero_add, cell_of_row w b j cs t fr hh, ← Array.getElem?_toList, hx]; exact hu⟩⟩

theorem ex_wfp : ∀ p ∈ exL.posts, p.wf := by
  intro p hp
  simp only [exL, List.mem_cons, List.not_mem_nil, or_false] at hp
  rcases hp with rfl | rfl | rfl | rfl | rfl
  all_goals exact ⟨by decide, by decide, by decide, by decide, by decide, by decide, by decide, by decide⟩

set_option maxHeartbeats 1000000 in
theorem example_any (w : World) : Calls Try.prog 32 #[] w fun e w' => ∃ A A', e = .returned (.agg #[.int .i64 1500, .slice A 3 3, .slice A' 5 5]) ∧ LedIn w' w'.heap.size A 3 A' 5 exL ∧ Below w.heap.size w w' := by
  go_enter Try.func32, Try.ntmps32
  go_wp2
  go_returns
  generalize hW : (((w.alloc _).alloc _).alloc _) = W
  have h1 : W.heap[w.heap.size + 1]? = some (.cells #[.int .i64 100, .int .i64 100, .int .i64 120] 3 (0, 0)) := by
    rw [← hW, Below.heap_alloc _ _ _ (by first | omega | (simp; done) | (simp; omega))]
    exact heap_at (by simp)
  have h2 : W.heap[w.heap.size + 1 + 1]? = some (.cells #[.int .i64 45000, .int .i64 1500, .int .u8 1, .int .i64 100, .int .i64 45000, .int .i64 1501, .int .u8 1, .int .i64 90, .int .i64 45000, .int .i64 1501, .int .u8 3, .int .i64 3, .int .i64 45030, .int .i64 1502, .int .u8 1, .int .i64 150, .int .i64 45030, .int .i64 1502, .int .u8 4, .int .i64 (-20)] 47 (0, 0)) := by
    rw [← hW]
    exact heap_at (by simp)
  have h3 : w.heap.size + 1 + 1 + 1 = W.heap.size := by rw [← hW]; simp
  have h4 : Below w.heap.size w W := by rw [← hW]; go_grown
  exact ⟨_, _, rfl, ⟨⟨rfl, reads_block (by omega) h1 rfl rfl⟩, ⟨rfl, reads_block (by omega) h2 rfl rfl⟩, ex_wfp, by simp [exL], by decide, by decide, by decide, by decide⟩, h4⟩

theorem OwnLed.led {w : World} {base c c' : Nat} {A A' : Option Addr} {L : Led} (h : OwnLed w base A c A' c' L) (wfp : ∀ p ∈ L.posts, p.wf) (wfd : ∀ d ∈ L.due, -9223372036854775808 ≤ d ∧ d ≤ 9223372036854775807) (s0 : -9223372036854775808 ≤ L.start) (s1 : L.start ≤ 9223372036854775807) :
    LedIn w w.heap.size A L.due.length A' L.posts.length L := by
  have a1 := own_shape h.due
  have a2 := own_shape h.posts
  obtain ⟨_, _, e1, b1, b2⟩ := a1
  obtain ⟨_, _, e2, b3, b4⟩ := a2
  cases e1; cases e2
  unfold maxLen at b2 b4
  exact ⟨⟨rfl, Reads.of_own h.due⟩, ⟨rfl, Reads.of_own h.posts⟩, wfp, wfd, s0, s1, by omega, by omega⟩

def exL2 : Led := ⟨1500, [80, 100, 120], exL.posts⟩
def exL3 : Led := ⟨1500, [100, 100, 120], [⟨45000, 1500, 1, 100⟩, ⟨45000, 1501, 1, 90⟩, ⟨45000, 1501, 3, 3⟩]⟩
theorem ex_open0 : openR exL 1500 = (0, 0) := by decide +kernel
theorem ex_open1 : openR exL 1501 = (10, 0) := by decide +kernel
theorem ex_open2 : openR exL 1502 = (-10, 0) := by decide +kernel
theorem ex_bal1 : balanceR exL 1502 = (10, 0) := by decide +kernel
theorem ex_bal2 : balanceR exL 1503 = (0, 0) := by decide +kernel
theorem ex_learn : learnR exL 1500 80 = (exL2, 0) := by
  have h1 : validB exL = true := by decide +kernel
  unfold learnR
  rw [if_neg (by rw [h1]; decide), if_neg (by decide), if_neg (by decide)]
  rfl
theorem ex_at : atR exL 45000 = (exL3, 0) := by
  have h1 : validB exL = true := by decide +kernel
  unfold atR
  rw [if_neg (by rw [h1]; decide)]
  rfl
theorem ex_open3 : openR exL2 1500 = (-20, 0) := by decide +kernel
theorem ex_open4 : openR exL3 1502 = (120, 0) := by decide +kernel

set_option maxRecDepth 100000 in
set_option maxHeartbeats 4000000 in
theorem awake_any (w : World) : Calls Try.prog 12 #[] w fun e w' => e = .returned (.bool true) ∧ Below w.heap.size w w' := by
  go_enter Try.func12, Try.ntmps12
  go_wp2_with fail
  refine (example_any _).mono ?_
  rintro e w1 ⟨A, A', rfl, hL, hB1⟩
  have KO : ∀ (m : Int) (r : Int × Int), openR exL m = r → -9223372036854775808 ≤ m → m ≤ 9223372036854775807 → ∀ W, Below w1.heap.size w1 W → Hid (Calls Try.prog 16 #[.agg #[.int .i64 1500, .slice A 3 3, .slice A' 5 5], .int .i64 m] W fun e w' => e = .returned (.tuple #[.int .i64 r.1, .int .i64 r.2]) ∧ Below W.heap.size W w') := by
    intro m r hr m0 m1 W hW
    subst hr
    exact open_any A 3 3 A' 5 5 exL m W (hL.to hW) ⟨m0, m1⟩
  have KB : ∀ (m : Int) (r : Int × Int), balanceR exL m = r → -9223372036854775808 ≤ m → m ≤ 9223372036854775807 → ∀ W, Below w1.heap.size w1 W → Hid (Calls Try.prog 17 #[.agg #[.int .i64 1500, .slice A 3 3, .slice A' 5 5], .int .i64 m] W fun e w' => e = .returned (.tuple #[.int .i64 r.1, .int .i64 r.2]) ∧ Below W.heap.size W w') := by
    intro m r hr m0 m1 W hW
    subst hr
    exact balance_any A 3 3 A' 5 5 exL m W (hL.to hW) ⟨m0, m1⟩
  have KL : ∀ W, Below w1.heap.size w1 W → Hid (Calls Try.prog 13 #[.agg #[.int .i64 1500, .slice A 3 3, .slice A' 5 5], .int .i64 1500, .int .i64 80] W (GivesLed W (exL2, 0))) := fun W hW => ex_learn ▸ learn_any A 3 3 A' 5 5 exL 1500 80 W (hL.to hW) (by decide)
  have KA : ∀ W, Below w1.heap.size w1 W → Hid (Calls Try.prog 23 #[.agg #[.int .i64 1500, .slice A 3 3, .slice A' 5 5], .int .i64 45000] W (GivesLed W (exL3, 0))) := fun W hW => ex_at ▸ at_any A 3 3 A' 5 5 exL 45000 W (hL.to hW)
  clear hL
  go_wp2_with fail
  have hB0 : Below w1.heap.size w1 ((w1.alloc (.cells #[.int .i64 1500, .slice A 3 3, .slice A' 5 5] 25)).alloc (.cells #[.int .i64 0, .int .i64 10, .int .i64 (-10)] 3)) := by go_grown
  have hz0 : w1.heap.size + 1 < ((w1.alloc (.cells #[.int .i64 1500, .slice A 3 3, .slice A' 5 5] 25)).alloc (.cells #[.int .i64 0, .int .i64 10, .int .i64 (-10)] 3)).heap.size := by simp
  have f0 : ((w1.alloc (.cells #[.int .i64 1500, .slice A 3 3, .slice A' 5 5] 25)).alloc (.cells #[.int .i64 0, .int .i64 10, .int .i64 (-10)] 3)).heap[w1.heap.size]? = some (.cells #[.int .i64 1500, .slice A 3 3, .slice A' 5 5] 25 (0, 0)) := by
    rw [Below.heap_alloc _ _ _ (by simp)]; exact heap_at rfl
  have f1 : ((w1.alloc (.cells #[.int .i64 1500, .slice A 3 3, .slice A' 5 5] 25)).alloc (.cells #[.int .i64 0, .int .i64 10, .int .i64 (-10)] 3)).heap[w1.heap.size + 1]? = some (.cells #[.int .i64 0, .int .i64 10, .int .i64 (-10)] 3 (0, 0)) := heap_at (by simp)
  generalize ((w1.alloc (.cells #[.int .i64 1500, .slice A 3 3, .slice A' 5 5] 25)).alloc (.cells #[.int .i64 0, .int .i64 10, .int .i64 (-10)] 3)) = W0 at *
  have hz0' : w1.heap.size < W0.heap.size := by omega
  have F := fun W (hW : Below W0.heap.size W0 W) => Lib.hid (show W.cell? ⟨w1.heap.size, 0, none⟩ = some (.int .i64 1500) ∧ W.cell? ⟨w1.heap.size, 1, none⟩ = some (.slice A 3 3) ∧ W.cell? ⟨w1.heap.size, 2, none⟩ = some (.slice A' 5 5) from
    have h := (hW.block _ hz0').trans f0
    ⟨cell_of_row W _ 0 _ _ _ h, cell_of_row W _ 1 _ _ _ h, cell_of_row W _ 2 _ _ _ h⟩)
  have G := fun W (hW : Below W0.heap.size W0 W) => Lib.hid (show W.cell? ⟨w1.heap.size + 1, 0, none⟩ = some (.int .i64 0) ∧ W.cell? ⟨w1.heap.size + 1, 1, none⟩ = some (.int .i64 10) ∧ W.cell? ⟨w1.heap.size + 1, 2, none⟩ = some (.int .i64 (-10)) from
    have h := (hW.block _ hz0).trans f1
    ⟨cell_of_row W _ 0 _ _ _ h, cell_of_row W _ 1 _ _ _ h, cell_of_row W _ 2 _ _ _ h⟩)
  clear f0 f1
  go_loopw [21] (fun i wr => ∃ k : Nat, k ≤ 3 ∧ i = .int .i64 k ∧ Below W0.heap.size W0 wr) (fun i _ => 3 - (intOf i).toNat)
  case atStart => exact ⟨0, by omega, rfl, Below.refl _ _⟩
  case round =>
    obtain ⟨k, hk, rfl, hb⟩ := hrel
    obtain ⟨f0, f1, f2⟩ := (F _ hb).out
    obtain ⟨g0, g1, g2⟩ := (G _ hb).out
    have hBr : Below w1.heap.size w1 wr := after hB0 hb
    have Hb := Lib.hid hb
    have hsz := hb.size
    have hlt : w1.heap.size < wr.heap.size := by omega
    clear hb G
    rcases (show k = 0 ∨ k = 1 ∨ k = 2 ∨ k = 3 by omega) with rfl | rfl | rfl | rfl
    · clear F KB KL KA
      go_wp2_with fail
      refine (KO 1500 (0, 0) ex_open0 (by decide) (by decide) _ hBr).out.mono ?_
      rintro e w2 ⟨rfl, hb2⟩
      have H2 := Lib.hid hb2
      clear KO hb2 f0 f1 f2 g0 g1 g2
      go_wp2
      go_roundw
      case rel => exact ⟨1, by omega, by go_num, after Hb.out H2.out⟩
      case measure => simp [intOf]
    · clear F KB KL KA
      go_wp2_with fail
      refine (KO 1501 (10, 0) ex_open1 (by decide) (by decide) _ hBr).out.mono ?_
      rintro e w2 ⟨rfl, hb2⟩
      have H2 := Lib.hid hb2
      clear KO hb2 f0 f1 f2 g0 g1 g2
      go_wp2
      go_roundw
      case rel => exact ⟨2, by omega, by go_num, after Hb.out H2.out⟩
      case measure => simp [intOf]
    · clear F KB KL KA
      go_wp2_with fail
      refine (KO 1502 (-10, 0) ex_open2 (by decide) (by decide) _ hBr).out.mono ?_
      rintro e w2 ⟨rfl, hb2⟩
      have H2 := Lib.hid hb2
      clear KO hb2 f0 f1 f2 g0 g1 g2
      go_wp2
      go_roundw
      case rel => exact ⟨3, by omega, by go_num, after Hb.out H2.out⟩
      case measure => simp [intOf]
    · clear g0 g1 g2
      go_wp2_with fail
      refine (KB 1502 (10, 0) ex_bal1 (by decide) (by decide) _ hBr).out.mono ?_
      rintro e w2 ⟨rfl, hb2⟩
      have hA2 := after Hb.out hb2
      have hB2 := after hBr hb2
      obtain ⟨a0, a1, a2⟩ := (F _ hA2).out
      clear f0 f1 f2 hb2
      go_wp2_with fail
      refine (KB 1503 (0, 0) ex_bal2 (by decide) (by decide) _ hB2).out.mono ?_
      rintro e w3 ⟨rfl, hb3⟩
      have hA3 := after hA2 hb3
      have hB3 := after hB2 hb3
      obtain ⟨b0, b1, b2⟩ := (F _ hA3).out
      clear a0 a1 a2 hb3
      go_wp2_with fail
      refine (KL _ hB3).out.mono ?_
      rintro e w4 ⟨A4, c4, A4', c4', rfl, hown4, hb4⟩
      have hA4 := after hA3 hb4
      have hB4 := after hB3 hb4
      obtain ⟨c0, c1, c2⟩ := (F _ hA4).out
      have hL4 := hown4.led ex_wfp (by decide) (by decide) (by decide)
      have KO4 := fun W hW => Lib.hid (open_any A4 3 c4 A4' 5 c4' exL2 1500 W (hL4.to (w' := W) hW) (by decide))
      rw [ex_open3] at KO4
      clear b0 b1 b2 hb4 KB KL KO hown4 hL4
      have hs4 := hA4.size
      go_wp2_with fail
      refine (KO4 _ (by go_grown)).out.mono ?_
      rintro e w5 ⟨rfl, hb5⟩
      have hA5 : Below W0.heap.size W0 w5 := after (show Below W0.heap.size W0 (World.alloc _ _) by go_grown) hb5
      have hs15 : w1.heap.size ≤ w4.heap.size := by omega
      have hB5 : Below w1.heap.size w1 w5 := after (show Below w1.heap.size w1 (World.alloc _ _) by go_grown) hb5
      obtain ⟨d0, d1, d2⟩ := (F _ hA5).out
      clear c0 c1 c2 hb5 KO4
      go_wp2_with fail
      refine (KA _ hB5).out.mono ?_
      rintro e w6 ⟨A6, c6, A6', c6', rfl, hown6, hb6⟩
      have hB6 := after hB5 hb6
      have hL6 := hown6.led (by intro p hp; simp only [exL3, List.mem_cons, List.not_mem_nil, or_false] at hp; rcases hp with rfl | rfl | rfl <;> exact ⟨by decide, by decide, by decide, by decide, by decide, by decide, by decide, by decide⟩) (by decide) (by decide) (by decide)
      have KO6 := fun W hW => Lib.hid (open_any A6 3 c6 A6' 3 c6' exL3 1502 W (hL6.to (w' := W) hW) (by decide))
      rw [ex_open4] at KO6
      clear d0 d1 d2 hb6 KA hown6 hL6 F
      have hs6 := hB6.size
      go_wp2_with fail
      refine (KO6 _ (by go_grown)).out.mono ?_
      rintro e w7 ⟨rfl, hb7⟩
      have hB7 : Below w1.heap.size w1 w7 := after (show Below w1.heap.size w1 (World.alloc _ _) by go_grown) hb7
      clear KO6 hb7
      go_wp2
      go_ret
      exact ⟨rfl, after hB1 hB7⟩
end Go.Proofs.Ytmaojcjnpblffaa
