/- The reference's Learn. -/
import Derived.Test.YtmaojcjnpblffaaLedV
import Derived.Deep.RegionHeld3
namespace Go.Proofs.Ytmaojcjnpblffaa
open Go.RowKit BigFrame
set_option linter.unusedVariables false

set_option maxRecDepth 100000 in
set_option maxHeartbeats 4000000 in
theorem rlearn_any (A : Option Addr) (n c : Nat) (A' : Option Addr) (n' c' : Nat) (L : Led) (m d : Int) (w : World) (h : LedIn w w.heap.size A n A' n' L) (hm : -9223372036854775808 ≤ m ∧ m ≤ 9223372036854775807) (hd : -9223372036854775808 ≤ d ∧ d ≤ 9223372036854775807) :
    Calls Try.prog 31 #[.agg #[.int .i64 L.start, .slice A n c, .slice A' n' c'], .int .i64 m, .int .i64 d] w (GivesRead w (learnR L m d)) := by
  have KV := fun W (hW : Below w.heap.size w W) => Lib.hid (rvalid_any A n c A' n' c' L W (h.to hW))
  have hlen := h.due.len
  have hlen' := h.posts.len
  have HI := Lib.hid h
  generalize hss : L.start = s at *
  have HS := Lib.hid hss
  clear h hss
  obtain ⟨hB1, hz1, hc1⟩ := (boxed3 w (.int .i64 s) (.slice A n c) (.slice A' n' c') 38)
  have hb2 := (boxed3 (w.alloc (.cells #[.int .i64 s, .slice A n c, .slice A' n' c'] 38)) (.int .i64 0) (.slice none 0 0) (.slice none 0 0) 38).1
  have hx2 := Box3.new (w.alloc (.cells #[.int .i64 s, .slice A n c, .slice A' n' c'] 38)) (.int .i64 0) (.slice none 0 0) (.slice none 0 0) 38
  have e1 : (w.alloc (.cells #[.int .i64 s, .slice A n c, .slice A' n' c'] 38)).heap.size = w.heap.size + 1 := by simp
  have hc2 := held3 hb2 hz1 hc1
  have hB0 := after hB1 hb2
  have hz0 : ((w.alloc (.cells #[.int .i64 s, .slice A n c, .slice A' n' c'] 38)).alloc (.cells #[.int .i64 0, .slice none 0 0, .slice none 0 0] 38)).heap.size = w.heap.size + 2 := by simp
  rw [e1] at hx2
  have F := fun W (hW : Below ((w.alloc (.cells #[.int .i64 s, .slice A n c, .slice A' n' c'] 38)).alloc (.cells #[.int .i64 0, .slice none 0 0, .slice none 0 0] 38)).heap.size ((w.alloc (.cells #[.int .i64 s, .slice A n c, .slice A' n' c'] 38)).alloc (.cells #[.int .i64 0, .slice none 0 0, .slice none 0 0] 38)) W) => Lib.hid (held3 hW (by omega) hc2)
  have X := fun W (hW : Below ((w.alloc (.cells #[.int .i64 s, .slice A n c, .slice A' n' c'] 38)).alloc (.cells #[.int .i64 0, .slice none 0 0, .slice none 0 0] 38)).heap.size ((w.alloc (.cells #[.int .i64 s, .slice A n c, .slice A' n' c'] 38)).alloc (.cells #[.int .i64 0, .slice none 0 0, .slice none 0 0] 38)) W) => Lib.hid (hx2.kept hW (by omega))
  clear hc1 hB1 hb2 hz1 hx2 hc2 e1
  cases hv : validB L
  · have hr : learnR L m d = (Led.zero, 2) := by unfold learnR; rw [if_pos (.inl hv)]
    rw [hv] at KV
    rw [hr]
    clear hr hv
    go_enter Try.func31, Try.ntmps31
    go_wp2_with fail
    generalize World.alloc (World.alloc w _) _ = w0 at *
    refine (KV _ hB0).out.mono ?_
    rintro e w1 ⟨rfl, hb1⟩
    have B1 := after hB0 hb1
    clear KV
    obtain ⟨⟨x0, x1, x2⟩, y0, y1, y2⟩ := (X _ hb1).out
    have hz : w.heap.size + 1 < w1.heap.size := by have := Below.size hb1; omega
    clear X F
    go_wp2
    refine bodyPost_ret (v := .tuple #[.agg #[.int .i64 0, .slice none 0 0, .slice none 0 0], .int .i64 2]) (by simp [results, Try.results31, go_sem, x0, x1, x2]) rfl ?_
    exact ⟨none, 0, none, 0, rfl, led_zero _, by have := after hB0 hb1; go_grown⟩
  · obtain ⟨⟨s0, s1, s2⟩, hdue, h3, _, _⟩ := valid_here hv
    rw [HS.out, hlen] at s1
    rw [HS.out] at s0
    rw [hlen] at s2
    rw [hv] at KV
    by_cases hd0 : d < 0
    · have hr : learnR L m d = (Led.zero, 2) := by unfold learnR; rw [if_pos (.inr (.inl (decide_eq_false (by omega))))]
      rw [hr]
      clear hr hv hdue
      go_enter Try.func31, Try.ntmps31
      go_wp2_with fail
      generalize World.alloc (World.alloc w _) _ = w0 at *
      refine (KV _ hB0).out.mono ?_
      rintro e w1 ⟨rfl, hb1⟩
      have B1 := after hB0 hb1
      clear KV
      obtain ⟨⟨x0, x1, x2⟩, y0, y1, y2⟩ := (X _ hb1).out
      have hz : w.heap.size + 1 < w1.heap.size := by have := Below.size hb1; omega
      clear X F
      go_wp2
      refine bodyPost_ret (v := .tuple #[.agg #[.int .i64 0, .slice none 0 0, .slice none 0 0], .int .i64 2]) (by simp [results, Try.results31, go_sem, x0, x1, x2]) rfl ?_
      exact ⟨none, 0, none, 0, rfl, led_zero _, by have := after hB0 hb1; go_grown⟩
    · by_cases hd1 : 1099511627776 < d
      · have hr : learnR L m d = (Led.zero, 2) := by unfold learnR; rw [if_pos (.inr (.inl (decide_eq_false (by omega))))]
        rw [hr]
        clear hr hv hdue
        go_enter Try.func31, Try.ntmps31
        go_wp2_with fail
        generalize World.alloc (World.alloc w _) _ = w0 at *
        refine (KV _ hB0).out.mono ?_
        rintro e w1 ⟨rfl, hb1⟩
        have B1 := after hB0 hb1
        clear KV
        obtain ⟨⟨x0, x1, x2⟩, y0, y1, y2⟩ := (X _ hb1).out
        have hz : w.heap.size + 1 < w1.heap.size := by have := Below.size hb1; omega
        clear X F
        go_wp2
        refine bodyPost_ret (v := .tuple #[.agg #[.int .i64 0, .slice none 0 0, .slice none 0 0], .int .i64 2]) (by simp [results, Try.results31, go_sem, x0, x1, x2]) rfl ?_
        exact ⟨none, 0, none, 0, rfl, led_zero _, by have := after hB0 hb1; go_grown⟩
      · have KH := fun W => Lib.hid (rhas_any s A A' n c n' c' m W s0 (by omega) (by omega))
        have ha : amtB d = true := decide_eq_true (by omega)
        have hr0 : learnR L m d = if hasB s n m = false ∧ m ≠ s + n then (Led.zero, 2) else if m = s + n ∧ (n = 1200 ∨ 2400 ≤ m) then (Led.zero, 5) else if m = s + n then (⟨L.start, L.due ++ [d], L.posts⟩, 0) else (⟨L.start, L.due.set (m - L.start).toNat d, L.posts⟩, 0) := by
          unfold learnR; rw [hv, ha, HS.out, hlen]; simp
        have HLEN := Lib.hid hlen
        have HLEN' := Lib.hid hlen'
        have HDUE := Lib.hid hdue
        clear hlen hlen' hdue hv ha
        have hdb0 : 0 ≤ d := by omega
        have hdb1 : d ≤ 1099511627776 := by omega
        cases hh : hasB s n m
        · have hh' := of_decide_eq_false hh
          rw [hh] at KH hr0
          clear hh
          by_cases hmn : m = s + n
          · have t0 : (m != s + (n : Int)) = false := by rw [bne_eq_false_iff_eq]; exact hmn
            have t1 : (m == s + (n : Int)) = true := by rw [beq_iff_eq]; exact hmn
            rw [if_neg (fun h => h.2 hmn)] at hr0
            by_cases hn12 : n = 1200
            · rw [if_pos ⟨hmn, .inl hn12⟩] at hr0
              rw [hr0]
              have t2 : ((n : Int) == 1200) = true := by rw [beq_iff_eq]; omega
              clear hr0 hh' hmn hn12
              go_enter Try.func31, Try.ntmps31
              go_wp2_with fail
              generalize World.alloc (World.alloc w _) _ = w0 at *
              refine (KV _ hB0).out.mono ?_
              rintro e w1 ⟨rfl, hb1⟩
              have B1 := after hB0 hb1
              clear KV
              obtain ⟨f0, f1, f2⟩ := (F _ hb1).out
              go_wp2_with fail
              refine (KH _).out.mono ?_
              rintro e w2 ⟨rfl, hb2⟩
              have E2 := after hb1 hb2
              have B2 := after hB0 E2
              clear f0 f1 f2 KH
              obtain ⟨f0, f1, f2⟩ := (F _ E2).out
              obtain ⟨⟨x0, x1, x2⟩, y0, y1, y2⟩ := (X _ E2).out
              have hz : w.heap.size + 1 < w2.heap.size := by have := Below.size E2; omega
              clear X F
              go_wp2
              refine bodyPost_ret (v := .tuple #[.agg #[.int .i64 0, .slice none 0 0, .slice none 0 0], .int .i64 5]) (by simp [results, Try.results31, go_sem, x0, x1, x2]) rfl ?_
              exact ⟨none, 0, none, 0, rfl, led_zero _, by have := after hB0 E2; go_grown⟩
            · have t2 : ((n : Int) == 1200) = false := by rw [beq_eq_false_iff_ne]; omega
              by_cases hm24 : 2400 ≤ m
              · rw [if_pos ⟨hmn, .inr hm24⟩] at hr0
                rw [hr0]
                clear hr0 hh' hmn hn12
                go_enter Try.func31, Try.ntmps31
                go_wp2_with fail
                generalize World.alloc (World.alloc w _) _ = w0 at *
                refine (KV _ hB0).out.mono ?_
                rintro e w1 ⟨rfl, hb1⟩
                have B1 := after hB0 hb1
                clear KV
                obtain ⟨f0, f1, f2⟩ := (F _ hb1).out
                go_wp2_with fail
                refine (KH _).out.mono ?_
                rintro e w2 ⟨rfl, hb2⟩
                have E2 := after hb1 hb2
                have B2 := after hB0 E2
                clear f0 f1 f2 KH
                obtain ⟨f0, f1, f2⟩ := (F _ E2).out
                obtain ⟨⟨x0, x1, x2⟩, y0, y1, y2⟩ := (X _ E2).out
                have hz : w.heap.size + 1 < w2.heap.size := by have := Below.size E2; omega
                clear X F
                go_wp2
                refine bodyPost_ret (v := .tuple #[.agg #[.int .i64 0, .slice none 0 0, .slice none 0 0], .int .i64 5]) (by simp [results, Try.results31, go_sem, x0, x1, x2]) rfl ?_
                exact ⟨none, 0, none, 0, rfl, led_zero _, by have := after hB0 E2; go_grown⟩
              · rw [if_neg (by omega), if_pos hmn] at hr0
                rw [hr0]
                have hm25 : m < 2400 := by omega
                clear hr0 hh' hmn hn12
                go_enter Try.func31, Try.ntmps31
                go_wp2_with fail
                generalize World.alloc (World.alloc w _) _ = w0 at *
                refine (KV _ hB0).out.mono ?_
                rintro e w1 ⟨rfl, hb1⟩
                have B1 := after hB0 hb1
                clear KV
                obtain ⟨f0, f1, f2⟩ := (F _ hb1).out
                go_wp2_with fail
                refine (KH _).out.mono ?_
                rintro e w2 ⟨rfl, hb2⟩
                have E2 := after hb1 hb2
                have B2 := after hB0 E2
                clear f0 f1 f2 KH
                obtain ⟨f0, f1, f2⟩ := (F _ E2).out
                have FS := fun W (hW : Below w2.heap.size w2 W) => (F W (after E2 hW)).out
                have KD := fun W (hW : Below w2.heap.size w2 W) => Lib.hid ((HI.out.to (after B2 hW)).due.reads)
                have hzs : w.heap.size + 1 < w2.heap.size := by have := E2.size; omega
                have hs12 : n ≤ 1200 := s2
                have hS2 := FS _ (Below.refl _ _)
                go_wp2_with fail
                go_region_held3 (fun W => W.cell? ⟨w.heap.size, 0, none⟩ = some (.int .i64 s) ∧ W.cell? ⟨w.heap.size, 1, none⟩ = some (.slice A n c) ∧ W.cell? ⟨w.heap.size, 2, none⟩ = some (.slice A' n' c')) (first | exact hS4 | exact hS3 | exact hS2 | (have ⟨q0, q1, q2⟩ := hS4; refine ⟨?_, ?_, ?_⟩ <;> simp [go_sem, q0, q1, q2]; done) | exact FS _ (by go_grown)) (first | (refine elemInt.step_append (by rfl) (.tmp 61) (.tmp 63) (by rfl) (by rfl) (lit_own (base := w2.heap.size) (by first | omega | (simp; done) | (simp; omega)) (by first | exact heap_at (by first | omega | (simp; done) | (simp; omega)) | exact (Below.heap_alloc _ _ _ (by first | omega | (simp; done) | (simp; omega))).trans (heap_at (by first | omega | (simp; done) | (simp; omega))) | exact (hg3.block _ (by first | omega | (simp; done) | (simp; omega)) (by simp [Value.ownBlock])).trans (heap_at (by first | omega | (simp; done) | (simp; omega))) | exact (hg3.block _ (by first | omega | (simp; done) | (simp; omega)) (by simp [Value.ownBlock])).trans ((Below.heap_alloc _ _ _ (by first | omega | (simp; done) | (simp; omega))).trans (heap_at (by first | omega | (simp; done) | (simp; omega)))))) (by rfl) ((KD _ (by go_grown)).out) (ints_one _) (by unfold maxLen; omega) (by omega) (by first | omega | (simp; done) | (simp; omega)) ?_; intro v3 w3 hown3 hg3 hat3; obtain ⟨A3, c3, hv3, _⟩ := own_shape hown3; subst hv3; simp only [Nat.zero_add, List.nil_append] at hown3 ⊢; have hW3 : Below w2.heap.size w2 w3 := Below.grown (by go_grown) hg3 (by first | omega | (simp; done) | (simp; omega)) (fun k hk => by cases hk; first | omega | (simp; done) | (simp; omega)); have hS3 := FS _ hW3; have hz3 : w2.heap.size ≤ w3.heap.size := hW3.size) | (go_must (refine elemInt.step_append (base := w2.heap.size) (n := n) (xs := ints L.due) (m := 1) (news := ints [d]) (by rfl) (.tmp 64) (.tmp 66) (by rfl) (by rfl) (by first | exact hown3 | exact hown3.alloc _) (by rfl) (reads_block (n := 1) (xs := ints [d]) (Nat.lt_succ_self _) (by first | exact heap_at (by first | omega | (simp; done) | (simp; omega)) | exact (Below.heap_alloc _ _ _ (by first | omega | (simp; done) | (simp; omega))).trans (heap_at (by first | omega | (simp; done) | (simp; omega))) | exact (hg3.block _ (by first | omega | (simp; done) | (simp; omega)) (by simp [Value.ownBlock])).trans (heap_at (by first | omega | (simp; done) | (simp; omega))) | exact (hg3.block _ (by first | omega | (simp; done) | (simp; omega)) (by simp [Value.ownBlock])).trans ((Below.heap_alloc _ _ _ (by first | omega | (simp; done) | (simp; omega))).trans (heap_at (by first | omega | (simp; done) | (simp; omega))))) rfl rfl) (ints_one [d]) (by unfold maxLen; omega) (by omega) (by have := hW3.size; first | omega | (simp; omega)) ?_; intro v4 w4 hown4 hg4 hat4; obtain ⟨A4, c4, hv4, _⟩ := own_shape hown4; subst hv4; have hW4 : Below w2.heap.size w2 w4 := Below.grown (by first | exact hW3 | go_grown) hg4 (by have := hW3.size; first | omega | (simp; omega)) (fun k hk => (hown3.lt k hk).1); have hS4 := FS _ hW4; obtain ⟨⟨x0, x1, x2⟩, y0, y1, y2⟩ := (X _ (after E2 hW4)).out)))
                all_goals
                  clear FS KD F X hS2 hS3 hS4
                  go_wp2
                  refine bodyPost_ret (v := .tuple #[.agg #[.int .i64 s, .slice A4 (n + 1) c4, .slice A' n' c'], .int .i64 0]) (by simp [results, Try.results31, go_sem, x0, x1, x2]) rfl ?_
                  have hB4 := after B2 hW4
                  have hlen2 : (L.due ++ [d]).length = n + 1 := by rw [List.length_append, HLEN.out]; rfl
                  have hst : w4.ownsRow w2.heap.size 3 1 (.slice A4 (n + 1) c4) (n + 1) (ints (L.due ++ [d])) := by
                    have := hown4
                    rw [show ints (L.due ++ [d]) = ints L.due ++ ints [d] by simp [ints]]
                    exact this
                  refine ⟨A4, c4, A', c', ?_, ?_, by have := hB4; go_grown⟩
                  · show _ = Ending.returned (.tuple #[.agg #[.int .i64 L.start, .slice A4 (L.due ++ [d]).length c4, .slice A' L.posts.length c'], .int .i64 0])
                    rw [hlen2, HLEN'.out, HS.out]
                  · show LedIn _ _ _ (L.due ++ [d]).length _ L.posts.length (⟨L.start, L.due ++ [d], L.posts⟩ : Led)
                    rw [hlen2, HLEN'.out]
                    refine ⟨⟨hlen2, Reads.of_own (ownsRow_setCell_below (ownsRow_setCell_below (ownsRow_setCell_below hst (by dsimp only; omega) _) (by dsimp only; omega) _) (by dsimp only; omega) _)⟩, (HI.out.to (by have := hB4; go_grown)).posts, HI.out.wfp, fun y hy => ?_, HI.out.s0, HI.out.s1, by omega, HI.out.n1⟩
                    rcases List.mem_append.1 hy with h | h
                    · exact HI.out.wfd y h
                    · rw [List.mem_singleton.1 h]; exact hd
          · have t0 : (m != s + (n : Int)) = true := by rw [bne_iff_ne]; exact hmn
            have t1 : (m == s + (n : Int)) = false := by rw [beq_eq_false_iff_ne]; exact hmn
            rw [if_pos ⟨rfl, hmn⟩] at hr0
            rw [hr0]
            clear hr0 hh' hmn
            go_enter Try.func31, Try.ntmps31
            go_wp2_with fail
            generalize World.alloc (World.alloc w _) _ = w0 at *
            refine (KV _ hB0).out.mono ?_
            rintro e w1 ⟨rfl, hb1⟩
            have B1 := after hB0 hb1
            clear KV
            obtain ⟨f0, f1, f2⟩ := (F _ hb1).out
            go_wp2_with fail
            refine (KH _).out.mono ?_
            rintro e w2 ⟨rfl, hb2⟩
            have E2 := after hb1 hb2
            have B2 := after hB0 E2
            clear f0 f1 f2 KH
            obtain ⟨f0, f1, f2⟩ := (F _ E2).out
            obtain ⟨⟨x0, x1, x2⟩, y0, y1, y2⟩ := (X _ E2).out
            have hz : w.heap.size + 1 < w2.heap.size := by have := Below.size E2; omega
            clear X F
            go_wp2
            refine bodyPost_ret (v := .tuple #[.agg #[.int .i64 0, .slice none 0 0, .slice none 0 0], .int .i64 2]) (by simp [results, Try.results31, go_sem, x0, x1, x2]) rfl ?_
            exact ⟨none, 0, none, 0, rfl, led_zero _, by have := after hB0 E2; go_grown⟩
        · have hh' := of_decide_eq_true hh
          rw [hh] at KH hr0
          obtain ⟨k, rfl⟩ : ∃ k : Nat, m = s + k := ⟨(m - s).toNat, by omega⟩
          have hkn : k < n := by omega
          rw [if_neg (fun h => by simp at h), if_neg (by omega), if_neg (by omega), HS.out, show (s + (k : Int) - s).toNat = k by omega] at hr0
          rw [hr0]
          clear hr0 hh hh'
          go_enter Try.func31, Try.ntmps31
          go_wp2_with fail
          generalize World.alloc (World.alloc w _) _ = w0 at *
          refine (KV _ hB0).out.mono ?_
          rintro e w1 ⟨rfl, hb1⟩
          have B1 := after hB0 hb1
          clear KV
          obtain ⟨f0, f1, f2⟩ := (F _ hb1).out
          go_wp2_with fail
          refine (KH _).out.mono ?_
          rintro e w2 ⟨rfl, hb2⟩
          have E2 := after hb1 hb2
          have B2 := after hB0 E2
          clear f0 f1 f2 KH
          obtain ⟨f0, f1, f2⟩ := (F _ E2).out
          have KD := fun W (hW : Below w2.heap.size w2 W) => Lib.hid ((HI.out.to (after B2 hW)).due.reads)
          have fz : w.heap.size < w2.heap.size := by have := E2.size; omega
          have hx0 := HI.out.due.at_ hkn
          obtain ⟨x, hx⟩ : ∃ x, L.due[k]? = some x := by obtain ⟨x, _, _, hx, _⟩ := hx0; exact ⟨x, hx⟩
          clear hx0
          have hix : (ints L.due)[k]? = some (.int .i64 x) := by simp [ints, hx]
          have HIX := Lib.hid hix
          have ew : IntKind.i64.wrap (s + (k : Int) - s) = k := by rw [show s + (k : Int) - s = k by omega]; exact IntWalk.i64_in _ (by omega)
          have hki : (k : Int) < (n : Int) := by omega
          have hk00 : (0 : Int) ≤ (k : Int) := by omega
          have hzs : w.heap.size + 1 < w2.heap.size := by have := E2.size; omega
          clear hx hix
          go_wp2_with (at_builtin; go_must (refine elemInt.list_append rfl (.tmp 24) (.tmp 26) rfl rfl (lit_own (base := w2.heap.size) (g := w2.heap.size) (Nat.le_refl _) (heap_at rfl)) rfl ((KD (w2.alloc (.cells #[] 3)) (by go_grown)).out) (ints_one _) (by unfold maxLen; omega) (by omega) (by simp) ?_; intro v3 w3 hown3 hg3 hat3; obtain ⟨A3, c3, hv3, _⟩ := own_shape hown3; subst hv3; simp only [Nat.zero_add, List.nil_append] at hown3; have hW3 : Below w2.heap.size w2 w3 := Below.grown (by go_grown) hg3 (by simp) (fun g hg => by cases hg; exact Nat.le_refl _); obtain ⟨g3, hA3, hg30, hg31⟩ := own_some hown3 (by omega); subst hA3; have z0 := (hown3.cellAt k (by omega)).trans HIX.out; have z1 := hown3.frozenAt k; obtain ⟨⟨x0, x1, x2⟩, y0, y1, y2⟩ := (X _ (after E2 hW3)).out; clear f0 f1 f2; obtain ⟨f0, f1, f2⟩ := (F _ (after E2 hW3)).out; have ne1 : ¬ w.heap.size = g3 := (by omega); have ne2 : ¬ w.heap.size + 1 = g3 := (by omega)))
          refine bodyPost_ret (v := .tuple #[.agg #[.int .i64 s, .slice (some ⟨g3, 0, none⟩) n c3, .slice A' n' c'], .int .i64 0]) (by simp [results, Try.results31, go_sem, x0, x1, x2]) rfl ?_
          have hB3 := after B2 (hW3.setCell hg30 (.int .i64 d) (p := ⟨g3, k, none⟩))
          have hst := (hown3.stored k (.int .i64 d)).1
          rw [ints_set] at hst
          have hlen2 : (L.due.set k d).length = n := by rw [List.length_set, HLEN.out]
          refine ⟨some ⟨g3, 0, none⟩, c3, A', c', ?_, ?_, by have := hB3; go_grown⟩
          · show _ = Ending.returned (.tuple #[.agg #[.int .i64 s, .slice (some ⟨g3, 0, none⟩) (L.due.set k d).length c3, .slice A' L.posts.length c'], .int .i64 0])
            rw [hlen2, HLEN'.out]
          · show LedIn _ _ _ (L.due.set k d).length _ L.posts.length (⟨s, L.due.set k d, L.posts⟩ : Led)
            rw [hlen2, HLEN'.out]
            refine ⟨⟨hlen2, Reads.of_own (ownsRow_setCell_below (ownsRow_setCell_below (ownsRow_setCell_below hst (by dsimp only; omega) _) (by dsimp only; omega) _) (by dsimp only; omega) _)⟩, (HI.out.to (by have := hB3; go_grown)).posts, HI.out.wfp, fun y hy => ?_, by dsimp only; omega, by dsimp only; omega, HI.out.n0, HI.out.n1⟩
            rcases List.mem_or_eq_of_mem_set hy with h | h
            · exact HI.out.wfd y h
            · subst h; exact hd
end Go.Proofs.Ytmaojcjnpblffaa
