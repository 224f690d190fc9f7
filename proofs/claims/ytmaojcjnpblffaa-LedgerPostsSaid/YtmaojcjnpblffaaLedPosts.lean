/- The walk of LedgerPosts. -/
import Derived.Test.YtmaojcjnpblffaaLedFirm
namespace Go.Proofs.Ytmaojcjnpblffaa
open Go.RowKit BigFrame
set_option linter.unusedVariables false

theorem paid_in {w : World} {p : Paid} {b B : Nat} {ty : TypeId} {fr : Nat × Nat} (hb : b < B) (hh : w.heap[b]? = some (.cells #[.int .i64 p.day, .int .i64 p.month, .int .u8 p.kind, .int .i64 p.amount] ty fr)) : Posts w B (some ⟨b, 0, none⟩) 1 [p] :=
  ⟨rfl, reads_block hb hh rfl rfl⟩

set_option maxRecDepth 100000 in
set_option maxHeartbeats 8000000 in
theorem posts_walk (A : Option Addr) (n c : Nat) (A' : Option Addr) (n' c' : Nat) (B : Option Addr) (k d : Nat) (L : Led) (ps : List Paid) (w : World) (h : LedIn w w.heap.size A n A' n' L) (hp : Posts w w.heap.size B k ps) (hwf : ∀ p ∈ ps, p.wf) (hk63 : k ≤ 9223372036854775807) :
    Calls Try.prog 8 #[.agg #[.int .i64 L.start, .slice A n c, .slice A' n' c'], .slice B k d] w fun e w' => e = .returned (.bool true) ∧ Below w.heap.size w w' := by
  have KU := fun W hW => Lib.hid (usable_any A n c A' n' c' L W (h.to (w' := W) hW))
  have KW := fun W => Lib.hid (awake_any W)
  by_cases hs : usableB L = false ∨ 20 < k
  · cases hu : usableB L
    · clear h hp hs
      go_enter Try.func8, Try.ntmps8
      go_wp2_with fail
      refine (KU _ (by go_grown)).out.mono ?_
      rintro e w1 ⟨rfl, hb1⟩
      have hB1 : Below w.heap.size w w1 := after (by go_grown) hb1
      clear KU hb1
      go_wp2_with fail
      refine (KW _).out.mono ?_
      rintro e w2 ⟨rfl, hb2⟩
      have hB2 := after hB1 hb2
      go_wp2
      go_ret
      exact ⟨rfl, hB2⟩
    · have hk20 : 20 < k := by rw [hu] at hs; simpa using hs
      have dk : decide (20 < (k : Int)) = true := decide_eq_true (by omega)
      clear h hp hs
      go_enter Try.func8, Try.ntmps8
      go_wp2_with fail
      refine (KU _ (by go_grown)).out.mono ?_
      rintro e w1 ⟨rfl, hb1⟩
      have hB1 : Below w.heap.size w w1 := after (by go_grown) hb1
      clear KU hb1
      go_wp2_with fail
      refine (KW _).out.mono ?_
      rintro e w2 ⟨rfl, hb2⟩
      have hB2 := after hB1 hb2
      go_wp2
      go_ret
      exact ⟨rfl, hB2⟩
  · have hu : usableB L = true := by cases h0 : usableB L <;> simp_all
    have hk20 : k ≤ 20 := by have := fun h0 => hs (.inr h0); omega
    clear hs
    obtain ⟨u1, u2, hv⟩ := usable_here hu
    obtain ⟨⟨s0, s1, _⟩, hdue, _, _, hso⟩ := valid_here hv
    have hlen := h.due.len
    have hlen' := h.posts.len
    have hplen := hp.len
    obtain ⟨R, E, hR⟩ : ∃ R E, postR L ps = (R, E) := ⟨_, _, rfl⟩
    have hRE : (R = Led.zero ∧ E = 2) ∨ (R = L.plus ps ∧ E = 0 ∧ okP L ps = true) := by
      rw [postR_ok hv (by omega)] at hR
      cases h0 : okP L ps
      · rw [h0] at hR; cases hR; exact .inl ⟨rfl, rfl⟩
      · rw [h0] at hR; cases hR; exact .inr ⟨rfl, rfl, rfl⟩
    have KP : ∀ W, Below w.heap.size w W → Hid (Calls Try.prog 29 #[.agg #[.int .i64 L.start, .slice A n c, .slice A' n' c'], .slice B k d] W (GivesLed W (R, E))) := fun W hW => hR ▸
      post_any A n c A' n' c' B k d L ps W (h.to hW) ((hp.later (Nat.le_refl _) hW).more hW.size) (by omega) hwf
    have KQ : ∀ (S : Led) A1 c1 A1' c1' p W b D, p ∈ ps → LedIn W W.heap.size A1 S.due.length A1' S.posts.length S → Posts W W.heap.size (some ⟨b, 0, none⟩) 1 [p] → Hid (Calls Try.prog 29 #[.agg #[.int .i64 S.start, .slice A1 S.due.length c1, .slice A1' S.posts.length c1'], .slice (some ⟨b, 0, none⟩) 1 D] W (GivesLed W (postR S [p]))) := fun S A1 c1 A1' c1' p W b D hpm hS hP =>
      post_any A1 _ c1 A1' _ c1' (some ⟨b, 0, none⟩) 1 D S [p] W hS hP (by omega) (by simpa using hwf p hpm)
    have RP : ∀ j, j < k → ∀ W, Below w.heap.size w W → Hid (∃ x b o, ps[j]? = some x ∧ B = some ⟨b, o, none⟩ ∧ b < w.heap.size ∧ W.cell? ⟨b, o + j * 4, none⟩ = some (.int .i64 x.day) ∧ W.cell? ⟨b, o + j * 4 + 1, none⟩ = some (.int .i64 x.month) ∧ W.cell? ⟨b, o + j * 4 + 2, none⟩ = some (.int .u8 x.kind) ∧ W.cell? ⟨b, o + j * 4 + 3, none⟩ = some (.int .i64 x.amount)) := by
      intro j hj W hW
      exact (hp.later (Nat.le_refl _) hW).at_ hj
    have wfz : ∀ j, (∀ p ∈ (oneBy L ps j).1.posts, p.wf) ∧ (∀ x ∈ (oneBy L ps j).1.due, -9223372036854775808 ≤ x ∧ x ≤ 9223372036854775807) ∧ -9223372036854775808 ≤ (oneBy L ps j).1.start ∧ (oneBy L ps j).1.start ≤ 9223372036854775807 := by
      intro j
      unfold oneBy
      split
      · refine ⟨fun p hp => ?_, h.wfd, h.s0, h.s1⟩
        rcases List.mem_append.1 (show p ∈ L.posts ++ ps.take j from hp) with h0 | h0
        · exact h.wfp p h0
        · exact hwf p (List.mem_of_mem_take h0)
      · exact ⟨by simp [Led.zero], by simp [Led.zero], by simp [Led.zero], by simp [Led.zero]⟩
    have hone : ∀ (j : Nat) p, ps[j]? = some p → oneBy L ps (j + 1) = if (oneBy L ps j).2 = 0 then postR (oneBy L ps j).1 [p] else oneBy L ps j := by
      intro j p hj
      unfold oneBy
      cases h0 : okP L (ps.take j)
      · rw [okP_stays h0]; rfl
      · have hpl : L.posts.length + (ps.take j).length + 1 ≤ 4000 := by rw [List.length_take]; omega
        have hpl' : (L.plus (ps.take j)).posts.length + [p].length ≤ 4000 := by show (L.posts ++ ps.take j).length + 1 ≤ 4000; rw [List.length_append]; omega
        rw [okP_next hj h0]
        simp only [if_true]
        rw [postR_ok (plus_valid hv (by omega) h0) hpl', Led.plus_plus, List.take_add_one, hj]
        rfl
    have hlast : oneBy L ps k = (R, E) := by
      rw [← hR, postR_ok hv (by omega)]
      unfold oneBy
      rw [List.take_of_length_le (by omega)]
    have hstart : oneBy L ps 0 = (L, 0) := by
      unfold oneBy
      rw [if_pos (okP_start hv ps), List.take_zero, Led.plus_nil]
    have HI := Lib.hid h
    clear h hp
    have PS0 : L.due.length = n := hlen
    go_enter Try.func8, Try.ntmps8
    go_wp2_with fail
    refine (KU _ (by go_grown)).out.mono ?_
    rintro e w1 ⟨rfl, hb1⟩
    have hB1 : Below w.heap.size w w1 := after (by go_grown) hb1
    have hz1 : w.heap.size < w1.heap.size := Nat.lt_of_lt_of_le (by first | omega | (simp; done) | (simp; omega)) hb1.size
    obtain ⟨f0, f1, f2⟩ := held3 hb1 (b := w.heap.size) (v0 := .int .i64 L.start) (v1 := .slice A n c) (v2 := .slice A' n' c') (by first | omega | (simp; done) | (simp; omega)) (by simp [go_sem])
    have F := fun W (hW : Below w1.heap.size w1 W) => Lib.hid (held3 hW hz1 ⟨f0, f1, f2⟩)
    have dk : decide (20 < (k : Int)) = false := decide_eq_false (by omega)
    clear KU hb1
    go_wp2_with fail
    refine (KP _ hB1).out.mono ?_
    rintro e w2 ⟨A2, c2, A2', c2', rfl, hm2, hb2⟩
    have D2 := hb2
    have B2 := after hB1 hb2
    have hlt2 : w.heap.size < w2.heap.size := by have := D2.size; omega
    dsimp only at hm2
    clear f0 f1 f2
    obtain ⟨f0, f1, f2⟩ := (F _ D2).out
    go_wp2_with fail
    obtain ⟨b2, z2, p2⟩ := boxed3 w2 (.int .i64 R.start) (.slice A2 R.due.length c2) (.slice A2' R.posts.length c2') 25
    have e3 : (w2.alloc (.cells #[.int .i64 R.start, .slice A2 R.due.length c2, .slice A2' R.posts.length c2'] 25)).heap.size = w2.heap.size + 1 := by simp
    generalize (World.alloc w2 _) = W3 at *
    have B3 := after B2 b2
    have D3 := after D2 b2
    have G3 := fun W (hW : Below (w2.heap.size + 1) W3 W) => Lib.hid (held3 (e3 ▸ hW) z2 p2)
    have bx := Box3.new W3 (.int .i64 L.start) (.slice A n c) (.slice A' n' c') 25
    have z3 := (boxed3 W3 (.int .i64 L.start) (.slice A n c) (.slice A' n' c') 25).2.1
    have hB4 := (boxed3 W3 (.int .i64 L.start) (.slice A n c) (.slice A' n' c') 25).1
    generalize (World.alloc W3 _) = W4 at *
    have hw3 : w.heap.size ≤ W3.heap.size := B3.size
    have fm : Firm W4 W3.heap.size A n A' n' L := HI.out.firm (after B3 hB4) hw3
    rw [e3] at bx z3 hB4 fm hw3
    clear f0 f1 f2 p2 KP
    go_loopw [8, 38] (fun e i wr => ∃ j : Nat, j ≤ k ∧ i = .int .i64 j ∧ e = .int .i64 (oneBy L ps j).2 ∧ Below (w2.heap.size + 1) W3 wr ∧ (w2.heap.size + 1) < wr.heap.size ∧ ∃ A1 c1 A1' c1', Firm wr (w2.heap.size + 1) A1 (oneBy L ps j).1.due.length A1' (oneBy L ps j).1.posts.length (oneBy L ps j).1 ∧
      Box3 wr (w2.heap.size + 1) (.int .i64 (oneBy L ps j).1.start) (.slice A1 (oneBy L ps j).1.due.length c1) (.slice A1' (oneBy L ps j).1.posts.length c1')) (fun _ i _ => k - (intOf i).toNat)
    case atStart =>
      refine ⟨0, Nat.zero_le _, rfl, by rw [hstart], hB4, z3, A, c, A', c', ?_, ?_⟩
      · rw [hstart]
        show Firm W4 _ A L.due.length A' L.posts.length L
        rw [hlen, hlen']; exact fm
      · rw [hstart]
        show Box3 W4 _ (.int .i64 L.start) (.slice A L.due.length c) (.slice A' L.posts.length c')
        rw [hlen, hlen']; exact bx
    case round =>
      obtain ⟨j, hj, rfl, rfl, hb, hzr, A1, c1, A1', c1', hF, hX⟩ := hrel
      by_cases hlt : j < k
      · obtain ⟨x, b, o, hx, rfl, hbB, x0, x1, x2, x3⟩ := (RP j hlt wr (B3.trans (hb.mono hw3))).out
        have hst := hone j x hx
        have hwz := wfz (j + 1)
        have hxm : x ∈ ps := List.mem_of_getElem? hx
        have HB := Lib.hid hb
        have hbl : b < wr.heap.size := by have := hb.size; omega
        have hji : (j : Int) < (k : Int) := by omega
        have hj0 : (0 : Int) ≤ (j : Int) := by omega
        obtain ⟨S, hS⟩ : ∃ S, (oneBy L ps j) = S := ⟨_, rfl⟩
        rw [hS] at hF hX hst
        simp only [hS]
        clear hS hx hb RP hone hlast hstart wfz F G3 fm bx
        by_cases h0 : S.2 = 0
        · rw [if_pos h0] at hst
          have HX := Lib.hid hX
          obtain ⟨⟨y0, y1, y2⟩, yf0, yf1, yf2⟩ := hX
          have t1 : (S.2 == 0) = true := by rw [beq_iff_eq]; exact h0
          go_wp2_with fail
          generalize hV : (World.alloc (World.alloc wr _) _) = V
          have hVs : V.heap.size = wr.heap.size + 2 := by rw [← hV]; simp
          have hbV : Below wr.heap.size wr V := by rw [← hV]; go_grown
          have hVh : V.heap[wr.heap.size + 1]? = some (.cells #[.int .i64 x.day, .int .i64 x.month, .int .u8 x.kind, .int .i64 x.amount] 47 (0, 0)) := by
            rw [← hV]
            exact heap_at (by simp)
          have HV := Lib.hid hV
          clear hV
          have KQx := KQ S.1 A1 c1 A1' c1' x V (wr.heap.size + 1) 1 hxm (hF.led (But.of _ hbV)) (paid_in (by omega) hVh)
          refine KQx.out.mono ?_
          rintro e w5 ⟨A5, c5, A5', c5', rfl, hm5, hb5⟩
          have hs5 := hb5.size
          have HX5 := Lib.hid ((HX.out.kept hbV hzr).kept hb5 (by omega))
          have B5 : Below (w2.heap.size + 1) W3 w5 := (HB.out.trans (hbV.mono (by omega))).trans (hb5.mono (by omega))
          rw [hst] at hwz
          have FM := Lib.hid (hm5.firm (t := w2.heap.size + 1) (by omega) hwz.1 hwz.2.1 hwz.2.2.1 hwz.2.2.2)
          have HB5 := Lib.hid B5
          have hs5' : w2.heap.size + 1 < w5.heap.size := by omega
          clear y0 y1 y2 yf0 yf1 yf2 x0 x1 x2 x3 hF KQ KQx hVh hbV HX hwz hm5 hb5 B5
          obtain ⟨⟨y0, y1, y2⟩, yf0, yf1, yf2⟩ := HX5.out
          go_wp2
          go_roundw
          case rel =>
            refine ⟨j + 1, by omega, by go_num, by rw [hst], ?_, by simpa using hs5', A5, c5, A5', c5', ?_, ?_⟩
            · have := HB5.out
              go_grown
            · rw [hst]
              exact FM.out.to (((But.set _ _ _ _).trans (But.set _ _ _ _)).trans (But.set _ _ _ _))
            · rw [hst]
              exact HX5.out.store _ _ _
          case measure => simp [intOf]; omega
        · rw [if_neg h0] at hst
          have t1 : (S.2 == 0) = false := by rw [beq_eq_false_iff_ne]; exact h0
          have HX := Lib.hid hX
          have HF := Lib.hid hF
          clear hX hF
          go_wp2_with fail
          go_roundw
          case rel =>
            have hal : Below wr.heap.size wr (wr.alloc (.cells #[.int .i64 x.day, .int .i64 x.month, .int .u8 x.kind, .int .i64 x.amount] 47)) := by go_grown
            refine ⟨j + 1, by omega, by go_num, by rw [hst], HB.out.trans (hal.mono (by omega)), by simp; omega, A1, c1, A1', c1', ?_, ?_⟩
            · rw [hst]
              exact HF.out.to (But.of _ hal)
            · rw [hst]
              exact HX.out.kept hal hzr
          case measure => simp [intOf]; omega
      · have hjk : j = k := by omega
        subst hjk
        rw [hlast] at hF hX
        rw [hlast]
        dsimp only at hF hX ⊢
        have hwz := wfz j
        rw [hlast] at hwz
        dsimp only at hwz
        have hM := hm2.led hwz.1 hwz.2.1 hwz.2.2.1 hwz.2.2.2
        have Br : Below w.heap.size w wr := B3.trans (hb.mono hw3)
        have Dr : Below w1.heap.size w1 wr := D3.trans (hb.mono (by have := D2.size; omega))
        have Er : Below w2.heap.size w2 wr := b2.trans (hb.mono (by omega))
        have hw1r : w.heap.size < wr.heap.size := by have := Dr.size; omega
        obtain ⟨f0, f1, f2⟩ := (F _ Dr).out
        obtain ⟨g0, g1, g2⟩ := (G3 _ hb).out
        rcases hRE with ⟨rfl, rfl⟩ | ⟨hRp, rfl, hok⟩
        · have KZ : ∀ W, Below w2.heap.size w2 W → Hid (Calls Try.prog 14 #[.agg #[.int .i64 Led.zero.start, .slice A2 Led.zero.due.length c2, .slice A2' Led.zero.posts.length c2'], .agg #[.int .i64 0, .slice none 0 0, .slice none 0 0]] W fun e w' => e = .returned (.bool true) ∧ Below W.heap.size W w') := fun W hW =>
            same_true 0 [] [] A2 none A2' none 0 c2 0 0 c2' 0 W (hM.to hW).due ⟨rfl, Reads.none_⟩ (hM.to hW).posts ⟨rfl, Reads.none_⟩ (by omega) (by omega)
          have KZr := KZ _ Er
          clear KZ KQ RP wfz hone hlast hstart HI F G3 hF hX fm bx hM hm2 hwz
          go_wp2_with fail
          refine KZr.out.mono ?_
          rintro e w6 ⟨rfl, hb6⟩
          have B6 := after Br hb6
          clear f0 f1 f2 g0 g1 g2 KZr
          go_wp2_with fail
          refine (KW _).out.mono ?_
          rintro e w7 ⟨rfl, hb7⟩
          have B7 := after B6 hb7
          go_wp2
          go_ret
          exact ⟨rfl, B7⟩
        · have hRv : validB R = true := by rw [hRp]; exact plus_valid hv (by omega) hok
          have hRo : ∀ m, openV R m = openV L m - sumBy (princ m) ps := fun m => by rw [hRp]; exact plus_open L ps m
          have hRs : R.start = L.start := by rw [hRp]; rfl
          have hRn : R.due.length = n := by rw [hRp]; exact hlen
          have hRq : R.posts.length ≤ 4000 := by rw [hRp]; show (L.posts ++ ps).length ≤ 4000; rw [List.length_append]; omega
          have hFr := hF.led (But.refl wr _)
          have KS := Lib.hid (same_true R.start R.due R.posts A2 A1 A2' A1' _ c2 c1 _ c2' c1' wr (hM.to Er).due hFr.due (hM.to Er).posts hFr.posts (by omega) (by omega))
          have KV : ∀ W, Below wr.heap.size wr W → Hid (Calls Try.prog 15 #[.agg #[.int .i64 R.start, .slice A2 R.due.length c2, .slice A2' R.posts.length c2']] W fun e w' => e = .returned (.bool true) ∧ Below W.heap.size W w') := by
            intro W hW
            have := valid_any A2 _ c2 A2' _ c2' R W (hM.to (after Er hW))
            rw [hRv] at this
            exact this
          have KO : ∀ (i : Nat), i < n → ∀ W, Below wr.heap.size wr W → Hid (Calls Try.prog 16 #[.agg #[.int .i64 L.start, .slice A n c, .slice A' n' c'], .int .i64 (L.start + i)] W fun e w' => e = .returned (.tuple #[.int .i64 (openV L (L.start + i)), .int .i64 0]) ∧ Below W.heap.size W w') := by
            intro i hi W hW
            have := open_any A n c A' n' c' L (L.start + i) W (HI.out.to (after Br hW)) (by omega)
            rw [openR_ok hv (by omega)] at this
            exact this
          have KM : ∀ (i : Nat), i < n → ∀ W, Below wr.heap.size wr W → Hid (Calls Try.prog 16 #[.agg #[.int .i64 R.start, .slice A2 R.due.length c2, .slice A2' R.posts.length c2'], .int .i64 (L.start + i)] W fun e w' => e = .returned (.tuple #[.int .i64 (openV L (L.start + i) - sumBy (princ (L.start + i)) ps), .int .i64 0]) ∧ Below W.heap.size W w') := by
            intro i hi W hW
            have := open_any A2 _ c2 A2' _ c2' R (L.start + i) W (hM.to (after Er hW)) (by omega)
            have hom : openR R (L.start + i) = (openV L (L.start + i) - sumBy (princ (L.start + i)) ps, 0) := by rw [← hRs, openR_ok hRv (by omega), hRo]
            rw [hom] at this
            exact this
          have RPr := fun q hq W (hW : Below wr.heap.size wr W) => RP q hq W (after Br hW)
          have Fr := fun W (hW : Below wr.heap.size wr W) => F W (after Dr hW)
          have Gr := fun W (hW : Below wr.heap.size wr W) => G3 W (hb.trans (hW.mono (by omega)))
          have ob := fun (i : Nat) (hi : i < n) => openV_bd hv (k := i) (by omega)
          have pb := fun (m : Int) (q : Nat) => sumBy_bound (princ m) 1099511627776 (by omega) (ps.take q) fun x hx => princ_bound (okP_fits hok) m x (List.mem_of_mem_take hx)
          have pt := fun (m : Int) {q : Nat} {x : Paid} (hx : ps[q]? = some x) => sumBy_take (princ m) hx
          have hall : ps.take j = ps := List.take_of_length_le (by omega)
          have BR := Lib.hid Br
          have hn40 : n ≤ 40 := by omega
          have s1' : L.start ≤ 2400 := by omega
          obtain ⟨⟨y0, y1, y2⟩, _⟩ := hX
          clear KQ RP wfz hone hlast hstart HI F G3 hF fm bx hM hm2 hwz hb Br Dr Er B2 B3 D2 D3 b2 hB1 hB4 hFr hRp hRv hRo hRs hRn hRq hok hdue hso
          obtain ⟨wq, hwq⟩ : ∃ wq, wr = wq := ⟨_, rfl⟩
          subst hwq
          go_wp2_with fail
          refine KS.out.mono ?_
          rintro e w6 ⟨rfl, hb6⟩
          clear f0 f1 f2 g0 g1 g2 y0 y1 y2 KS
          obtain ⟨f0, f1, f2⟩ := (Fr _ hb6).out
          obtain ⟨g0, g1, g2⟩ := (Gr _ hb6).out
          go_wp2_with fail
          refine (KV _ hb6).out.mono ?_
          rintro e w7 ⟨rfl, hb7⟩
          have C7 := after hb6 hb7
          clear f0 f1 f2 g0 g1 g2 KV hb6 hb7
          obtain ⟨f0, f1, f2⟩ := (Fr _ C7).out
          have hC7 := C7.size
          generalize L.start = s at *
          go_wp2_with fail
          have C7' := Lib.hid C7
          go_loopw [79] (fun i wr => ∃ i1 : Nat, i1 ≤ n ∧ i = .int .i64 i1 ∧ Below w7.heap.size w7 wr) (fun i _ => n - (intOf i).toNat)
          case atStart => exact ⟨0, Nat.zero_le _, rfl, Below.refl _ _⟩
          case round =>
            obtain ⟨i1, hi1, rfl, hb⟩ := hrel
            have Cr := after C7 hb
            clear f0 f1 f2
            obtain ⟨f0, f1, f2⟩ := (Fr _ Cr).out
            by_cases hlt : i1 < n
            · have ob1 := ob i1 hlt
              have pbm := fun q => pb (s + i1) q
              have ptm := fun (q : Nat) (x : Paid) (hx : ps[q]? = some x) => Lib.hid (pt (s + i1) hx)
              have KO1 := KO i1 hlt
              have KM1 := KM i1 hlt
              have Hb := Lib.hid hb
              have HCr := Lib.hid Cr
              have fin : sumBy (princ (s + i1)) (ps.take j) = sumBy (princ (s + i1)) ps := by rw [hall]
              have Hfin := Lib.hid fin
              generalize hmo : s + (i1 : Int) = mo at *
              have mo0 : 0 ≤ mo := by omega
              have mo1 : mo ≤ 2440 := by omega
              clear KO KM ob pb pt fin hb
              go_wp2_with fail
              obtain ⟨wo, rfl⟩ : ∃ wo : World, wo = wr := ⟨_, rfl⟩
              go_loopw [13, 88] (fun nn i wr => ∃ q : Nat, q ≤ j ∧ i = .int .i64 q ∧ nn = .int .i64 (sumBy (princ mo) (ps.take q)) ∧ Below wo.heap.size wo wr) (fun _ i _ => j - (intOf i).toNat)
              case atStart => exact ⟨0, Nat.zero_le _, rfl, rfl, Below.refl _ _⟩
              case round =>
                obtain ⟨q, hq, rfl, rfl, hb⟩ := hrel
                have Cq := after Cr hb
                clear f0 f1 f2
                have bd := pbm q
                have hlq : (ps.take q).length ≤ q := List.length_take_le _ _
                generalize (ps.take q).length = lq at bd hlq
                have bd1 : -1099511627776 * 20 ≤ sumBy (princ mo) (ps.take q) := by omega
                have bd2 : sumBy (princ mo) (ps.take q) ≤ 1099511627776 * 20 := by omega
                clear bd hlq
                by_cases hltq : q < j
                · obtain ⟨x, b, o, hx, rfl, hbB, x0, x1, x2, x3⟩ := (RPr q hltq wr Cq).out
                  have hst := (ptm q x hx).out
                  have bdx := pbm (q + 1)
                  have hlq : (ps.take (q + 1)).length ≤ q + 1 := List.length_take_le _ _
                  generalize (ps.take (q + 1)).length = lq at bdx hlq
                  have hji : (q : Int) < (j : Int) := by omega
                  have hj0 : (0 : Int) ≤ (q : Int) := by omega
                  have hp : princ mo x = if x.month ≠ mo ∨ x.kind = 3 then 0 else x.amount := rfl
                  have HB := Lib.hid hb
                  generalize sumBy (princ mo) (ps.take q) = y at *
                  have HST := Lib.hid hst
                  by_cases hm : x.month = mo
                  · have t1 : (x.month == mo) = true := by rw [beq_iff_eq]; exact hm
                    by_cases hk3 : x.kind = 3
                    · have t2 : (x.kind == 3) = true := by rw [beq_iff_eq]; exact hk3
                      rw [if_pos (.inr hk3)] at hp
                      have HP := Lib.hid hp
                      clear hp hst hx hb bdx hlq KO1 KM1 RPr ptm pbm Fr Gr
                      go_wp2_with fail
                      go_roundw
                      case rel => exact ⟨q + 1, by omega, by go_num, by rw [HST.out, HP.out, Int.add_zero], after HB.out (by go_grown)⟩
                      case measure => simp [intOf]; omega
                    · have t2 : (x.kind == 3) = false := by rw [beq_eq_false_iff_ne]; exact hk3
                      rw [if_neg (fun h => h.elim (fun h => h hm) hk3)] at hp
                      have HP := Lib.hid hp
                      have r1 : IntKind.i64.wrap (y + x.amount) = y + x.amount := IntWalk.i64_in _ (by omega)
                      clear hp hst hx hb bdx hlq KO1 KM1 RPr ptm pbm Fr Gr
                      go_wp2_with fail
                      go_roundw
                      case rel => exact ⟨q + 1, by omega, by go_num, by rw [HST.out, HP.out], after HB.out (by go_grown)⟩
                      case measure => simp [intOf]; omega
                  · have t1 : (x.month == mo) = false := by rw [beq_eq_false_iff_ne]; exact hm
                    rw [if_pos (.inl hm)] at hp
                    have HP := Lib.hid hp
                    clear hp hst hx hb bdx hlq KO1 KM1 RPr ptm pbm Fr Gr
                    go_wp2_with fail
                    go_roundw
                    case rel => exact ⟨q + 1, by omega, by go_num, by rw [HST.out, HP.out, Int.add_zero], after HB.out (by go_grown)⟩
                    case measure => simp [intOf]; omega
                · have hqj : q = j := by omega
                  subst hqj
                  obtain ⟨f0, f1, f2⟩ := (Fr _ Cq).out
                  have hf := Hfin.out
                  rw [hf] at bd1 bd2
                  rw [hf]
                  generalize sumBy (princ mo) ps = y at *
                  generalize openV L mo = ov at *
                  have HB := Lib.hid hb
                  have HBw := Lib.hid (after Hb.out hb)
                  clear RPr ptm pbm hb hf
                  go_wp2_with fail
                  refine (KO1 _ Cq).out.mono ?_
                  rintro e w8 ⟨rfl, hb8⟩
                  have C8 := after Cq hb8
                  have H8 := Lib.hid (after HBw.out hb8)
                  clear f0 f1 f2 KO1 hb8
                  obtain ⟨g0, g1, g2⟩ := (Gr _ C8).out
                  go_wp2_with fail
                  refine (KM1 _ C8).out.mono ?_
                  rintro e w9 ⟨rfl, hb9⟩
                  have H9 := Lib.hid (after H8.out hb9)
                  clear g0 g1 g2 KM1 hb9
                  go_wp2
                  go_roundw
                  case rel => exact ⟨i1 + 1, by omega, by go_num, H9.out⟩
                  case measure => simp [intOf]; omega
            · have hin : i1 = n := by omega
              subst hin
              have B8 := after BR.out Cr
              clear KO KM RPr Fr Gr ob pb pt C7 C7' hb
              go_wp2_with fail
              refine (KW _).out.mono ?_
              rintro e w8 ⟨rfl, hb8⟩
              have B9 := after B8 hb8
              go_wp2
              go_ret
              exact ⟨rfl, B9⟩
end Go.Proofs.Ytmaojcjnpblffaa
