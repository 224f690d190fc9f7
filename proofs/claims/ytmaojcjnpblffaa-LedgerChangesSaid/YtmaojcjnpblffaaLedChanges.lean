/- The walk of LedgerChanges. -/
import Derived.Test.YtmaojcjnpblffaaLedChangesW
import Derived.Deep.DeepCutAuto
import Derived.Deep.CutBlock
namespace Go.Proofs.Ytmaojcjnpblffaa
open Go.RowKit BigFrame
set_option linter.unusedVariables false

/-- What holds while the two results are counted up. -/
structure Both (w4 w0 : World) (x ba bc : Nat) (sa : Int) (Aa : Option Addr) (na ca : Nat) (Aa' : Option Addr) (pa ca' : Nat) (sc : Int) (Ac : Option Addr) (nc cc : Nat) (Ac' : Option Addr) (pc cc' : Nat) (W : World) : Prop where
  below : Below w4.heap.size w4 W
  size : x < W.heap.size
  pair : W.heap[x]? = some (.cells #[.int .i64 sa, .slice Aa na ca, .slice Aa' pa ca', .int .i64 sc, .slice Ac nc cc, .slice Ac' pc cc'] 25 (0, 0))
  ra : Rows2 ba Aa na ca Aa' pa ca' W
  rc : Rows2 bc Ac nc cc Ac' pc cc' W
  a1 : ∀ k, (Value.slice Aa na ca).ownBlock = some k → ba ≤ k ∧ k < bc
  a2 : ∀ k, (Value.slice Aa' pa ca').ownBlock = some k → ba ≤ k ∧ k < bc
  c1 : ∀ k, (Value.slice Ac nc cc).ownBlock = some k → bc ≤ k ∧ k < x
  c2 : ∀ k, (Value.slice Ac' pc cc').ownBlock = some k → bc ≤ k ∧ k < x
  ab : ba ≤ bc
  cx : bc ≤ x
  w4a : w4.heap.size ≤ ba
section
variable {w4 w0 ws W : World} {x ba bc t na ca pa ca' nc cc pc cc' : Nat} {sa sc : Int} {Aa Aa' Ac Ac' : Option Addr}
theorem Both.goa (h : Both w4 w0 x ba bc sa Aa na ca Aa' pa ca' sc Ac nc cc Ac' pc cc' ws) {o : Obj} (hc : Cnt (ws.alloc o) ba t sa Aa na ca Aa' pa ca' W) : Both w4 w0 x ba bc sa Aa na ca Aa' pa ca' sc Ac nc cc Ac' pc cc' W := by
  have hx := h.size
  have h0 := h.cx
  have h1 := h.ab
  have h2 := h.w4a
  have hsz : (ws.alloc o).heap.size = ws.heap.size + 1 := by simp
  have hs := hc.size
  have far : ∀ k, k < ws.heap.size → (Value.slice Aa na ca).ownBlock ≠ some k → (Value.slice Aa' pa ca').ownBlock ≠ some k → W.heap[k]? = ws.heap[k]? := fun k hk a b => (hc.far k (by omega) a b).trans (Below.heap_alloc _ _ _ hk)
  refine ⟨h.below.trans (((Below.refl ws.heap.size ws).alloc (Nat.le_refl _) o |>.mono h.below.size).trans ((hc.below (by omega)).mono (by have := h.below.size; omega))), by omega, (far x hx (fun e => by have := (h.a1 x e).2; omega) (fun e => by have := (h.a2 x e).2; omega)).trans h.pair, hc.rows, h.rc.far (fun k hk => ?_) (fun k hk => ?_), h.a1, h.a2, h.c1, h.c2, h.ab, h.cx, h.w4a⟩
  · have := h.c1 k hk
    exact far k (by omega) (fun e => by have := (h.a1 k e).2; omega) (fun e => by have := (h.a2 k e).2; omega)
  · have := h.c2 k hk
    exact far k (by omega) (fun e => by have := (h.a1 k e).2; omega) (fun e => by have := (h.a2 k e).2; omega)
theorem Both.goc (h : Both w4 w0 x ba bc sa Aa na ca Aa' pa ca' sc Ac nc cc Ac' pc cc' ws) {o : Obj} (hc : Cnt (ws.alloc o) bc t sc Ac nc cc Ac' pc cc' W) : Both w4 w0 x ba bc sa Aa na ca Aa' pa ca' sc Ac nc cc Ac' pc cc' W := by
  have hx := h.size
  have h0 := h.cx
  have h1 := h.ab
  have h2 := h.w4a
  have hsz : (ws.alloc o).heap.size = ws.heap.size + 1 := by simp
  have hs := hc.size
  have far : ∀ k, k < ws.heap.size → (Value.slice Ac nc cc).ownBlock ≠ some k → (Value.slice Ac' pc cc').ownBlock ≠ some k → W.heap[k]? = ws.heap[k]? := fun k hk a b => (hc.far k (by omega) a b).trans (Below.heap_alloc _ _ _ hk)
  refine ⟨h.below.trans (((Below.refl ws.heap.size ws).alloc (Nat.le_refl _) o |>.mono h.below.size).trans ((hc.below (by omega)).mono (by have := h.below.size; omega))), by omega, (far x hx (fun e => by have := (h.c1 x e).2; omega) (fun e => by have := (h.c2 x e).2; omega)).trans h.pair, h.ra.far (fun k hk => ?_) (fun k hk => ?_), hc.rows, h.a1, h.a2, h.c1, h.c2, h.ab, h.cx, h.w4a⟩
  · have := h.a1 k hk
    exact far k (by omega) (fun e => by have := (h.c1 k e).1; omega) (fun e => by have := (h.c2 k e).1; omega)
  · have := h.a2 k hk
    exact far k (by omega) (fun e => by have := (h.c1 k e).1; omega) (fun e => by have := (h.c2 k e).1; omega)
end

set_option maxRecDepth 100000 in
set_option maxHeartbeats 8000000 in
theorem changes_main (A : Option Addr) (n c : Nat) (A' : Option Addr) (n' c' : Nat) (B : Option Addr) (k d : Nat) (L : Led) (ps : List Paid) (mo du : Int) (w : World) (h : LedIn w w.heap.size A n A' n' L) (hp : Posts w w.heap.size B k ps) (hwf : ∀ p ∈ ps, p.wf) (hf : fewB n n' = true) (hk : k ≤ 20 ∨ 4000 < k ∧ k ≤ 4002)
    (m0 : -9223372036854775808 ≤ mo ∧ mo ≤ 9223372036854775807) (d0 : -9223372036854775808 ≤ du ∧ du ≤ 9223372036854775807) :
    Calls Try.prog 6 #[.agg #[.int .i64 L.start, .slice A n c, .slice A' n' c'], .slice B k d, .int .i64 mo, .int .i64 du] w fun e w' => e = .returned (.bool true) ∧ Below w.heap.size w w' := by
  have hlen := h.due.len
  have hlen' := h.posts.len
  have hplen := hp.len
  have hf' := of_decide_eq_true hf
  have n40 : n ≤ 1202 := by omega
  have n60 : n' ≤ 4002 := by omega
  have k40 : k ≤ 4002 := by omega
  have KW := fun W => Lib.hid (awake_any W)
  have KF : ∀ W, Hid (Calls Try.prog 18 #[.agg #[.int .i64 L.start, .slice A n c, .slice A' n' c']] W fun e w' => e = .returned (.bool true) ∧ Below W.heap.size W w') := fun W => hf ▸ few_any L.start A n c A' n' c' W h.n0 h.n1
  have KC : ∀ W, Below w.heap.size w W → Hid (Calls Try.prog 19 #[.agg #[.int .i64 L.start, .slice A n c, .slice A' n' c']] W fun e w' => ∃ A1 c1 A2 c2, e = .returned (.agg #[.int .i64 L.start, .slice A1 n c1, .slice A2 n' c2]) ∧ OwnLed w' W.heap.size A1 c1 A2 c2 L ∧ Below W.heap.size W w') := fun W hW =>
    copied_any A n c A' n' c' L W (h.to hW) (by omega) (by omega)
  have KD := fun W (hW : Below w.heap.size w W) => Lib.hid (hp.reads.later (Nat.le_refl _) hW)
  obtain ⟨Pa, ea, hra⟩ : ∃ Pa ea, postR L ps = (Pa, ea) := ⟨_, _, rfl⟩
  obtain ⟨Pc, ec, hrc⟩ : ∃ Pc ec, learnR L mo du = (Pc, ec) := ⟨_, _, rfl⟩
  have KP : ∀ W, Below w.heap.size w W → Hid (Calls Try.prog 29 #[.agg #[.int .i64 L.start, .slice A n c, .slice A' n' c'], .slice B k d] W (GivesLed W (Pa, ea))) := fun W hW =>
    hra ▸ post_any A n c A' n' c' B k d L ps W (h.to hW) ((hp.later (Nat.le_refl _) hW).more hW.size) (by omega) hwf
  have KL : ∀ W, Below w.heap.size w W → Hid (Calls Try.prog 13 #[.agg #[.int .i64 L.start, .slice A n c, .slice A' n' c'], .int .i64 mo, .int .i64 du] W (GivesLed W (Pc, ec))) := fun W hW =>
    hrc ▸ learn_any A n c A' n' c' L mo du W (h.to hW) m0
  have la := postR_len L ps
  have lc := learnR_len L mo du
  rw [hra, hlen, hlen', hplen] at la
  rw [hrc, hlen, hlen'] at lc
  dsimp only at la lc
  have HI := Lib.hid h
  have HP := Lib.hid hp
  have HWF := Lib.hid hwf
  have HRA := Lib.hid hra
  have HRC := Lib.hid hrc
  have HLEN := Lib.hid hlen
  have HLEN' := Lib.hid hlen'
  have HPLEN := Lib.hid hplen
  have dk : decide (20 < (k : Int)) = decide (4000 < k) := decide_eq_decide.2 (by omega)
  have dk2 : decide (4002 < (k : Int)) = false := decide_eq_false (by omega)
  clear h hp hwf hlen hlen' hplen hf hf' hra hrc dk dk2
  generalize hss : L.start = s at *
  have HSS := Lib.hid hss
  clear hss
  go_enter Try.func6, Try.ntmps6
  go_upto_region 1 with fail
  go_cut [42] from 25 to 42 (fun v wx => v = .bool false ∧ Below (w.heap.size + 1) (w.alloc (.cells #[.int .i64 s, .slice A n c, .slice A' n' c'] 25)) wx)
  case first =>
    go_wp2_with fail
    refine (KF _).out.mono ?_
    rintro e w1 ⟨rfl, hb1⟩
    have HB1 := Lib.hid hb1
    clear hb1 KF KC KD KP KL
    by_cases hk20 : k ≤ 20
    · go_wp2_with fail
      go_meet
      exact ⟨congrArg Value.bool (decide_eq_false (by omega)), HB1.out.mono (by simp)⟩
    · have hk4 : 4000 < k := by omega
      go_wp2_with fail
      go_meet
      exact ⟨congrArg Value.bool (by rw [decide_eq_false (by omega), decide_eq_false (by omega)]; rfl), HB1.out.mono (by simp)⟩
  case rest =>
    obtain ⟨w1, rfl⟩ : ∃ w1 : World, w1 = wc := ⟨_, rfl⟩
    obtain ⟨rfl, hb1⟩ := hcut
    have hB1 : Below w.heap.size w w1 := (show Below w.heap.size w _ by go_grown).trans (hb1.mono (by omega))
    have hz1 : w.heap.size < w1.heap.size := by have := hb1.size; simp at this; omega
    have hb1' : Below (w.alloc (.cells #[.int .i64 s, .slice A n c, .slice A' n' c'] 25)).heap.size (w.alloc (.cells #[.int .i64 s, .slice A n c, .slice A' n' c'] 25)) w1 := hb1.mono (by simp)
    obtain ⟨f0, f1, f2⟩ := held3 hb1' (b := w.heap.size) (v0 := .int .i64 s) (v1 := .slice A n c) (v2 := .slice A' n' c') (by first | omega | (simp; done) | (simp; omega)) (by simp [go_sem])
    have F := Lib.hid (And.intro f0 (And.intro f1 f2))
    clear KF hb1 hb1'
    go_wp2_with fail
    refine (KC _ hB1).out.mono ?_
    rintro e w2 ⟨A1, c1, A2, c2, rfl, ho2, hb2⟩
    have hB2 := after hB1 hb2
    have F2 := Lib.hid (held3 hb2 hz1 F.out)
    have hz2 : w.heap.size < w2.heap.size := Nat.lt_of_lt_of_le hz1 hb2.size
    have hw2 : LedIn w2 w2.heap.size A1 n A2 n' L := by
      have := ho2.led HI.out.wfp HI.out.wfd HI.out.s0 HI.out.s1
      rw [HLEN.out, HLEN'.out] at this
      exact this
    have HW2 := Lib.hid hw2
    clear f0 f1 f2 F KC hb2 ho2 hw2
    go_wp2_with (at_builtin; go_must (refine elemPaid.list_append rfl (.tmp 46) (.tmp 47) rfl rfl (lit_own (base := w2.heap.size) (g := w2.heap.size) (Nat.le_refl _) (heap_at rfl)) rfl ((KD (w2.alloc (.cells #[] 47)) (by go_grown)).out) (paids_one _) (by unfold maxLen; omega) (by omega) (by simp) ?_; intro v3 w3 hown3 hg3 hat3; obtain ⟨A3, c3, hv3, _⟩ := own_shape hown3; subst hv3; simp only [Nat.zero_add, List.nil_append] at hown3 ⊢; have hW3 : Below w2.heap.size w2 w3 := Below.grown (by go_grown) hg3 (by simp) (fun g hg => by cases hg; exact Nat.le_refl _); obtain ⟨f0, f1, f2⟩ := held3 hW3 hz2 F2.out; have hz3 : w.heap.size < w3.heap.size := Nat.lt_of_lt_of_le hz2 hW3.size))
    have hB4 : Below w3.heap.size w3 ((w3.alloc (.cells #[.int .i64 s, .slice A1 n c1, .slice A2 n' c2] 25)).alloc (.cells #[.int .i64 s, .slice A1 n c1, .slice A2 n' c2] 38)) := by go_grown
    have V : ∀ W, Below ((w3.alloc (.cells #[.int .i64 s, .slice A1 n c1, .slice A2 n' c2] 25)).alloc (.cells #[.int .i64 s, .slice A1 n c1, .slice A2 n' c2] 38)).heap.size ((w3.alloc (.cells #[.int .i64 s, .slice A1 n c1, .slice A2 n' c2] 25)).alloc (.cells #[.int .i64 s, .slice A1 n c1, .slice A2 n' c2] 38)) W →
        Hid ((W.cell? ⟨w.heap.size, 0, none⟩ = some (.int .i64 s) ∧ W.cell? ⟨w.heap.size, 1, none⟩ = some (.slice A n c) ∧ W.cell? ⟨w.heap.size, 2, none⟩ = some (.slice A' n' c')) ∧
          (W.cell? ⟨w3.heap.size, 0, none⟩ = some (.int .i64 s) ∧ W.cell? ⟨w3.heap.size, 1, none⟩ = some (.slice A1 n c1) ∧ W.cell? ⟨w3.heap.size, 2, none⟩ = some (.slice A2 n' c2)) ∧
          (W.cell? ⟨w3.heap.size + 1, 0, none⟩ = some (.int .i64 s) ∧ W.cell? ⟨w3.heap.size + 1, 1, none⟩ = some (.slice A1 n c1) ∧ W.cell? ⟨w3.heap.size + 1, 2, none⟩ = some (.slice A2 n' c2))) := by
      intro W hW
      exact ⟨held3 (after hB4 hW) hz3 ⟨f0, f1, f2⟩, held3 hW (by simp; omega) (by simp [go_sem]), held3 hW (by simp) (by simp [go_sem])⟩
    have hs4 : ((w3.alloc (.cells #[.int .i64 s, .slice A1 n c1, .slice A2 n' c2] 25)).alloc (.cells #[.int .i64 s, .slice A1 n c1, .slice A2 n' c2] 38)).heap.size = w3.heap.size + 2 := by simp
    generalize World.alloc (World.alloc w3 _) _ = w4 at *
    have C4 : Below w.heap.size w w4 := after hB2 (after hW3 hB4)
    have C2 : Below w2.heap.size w2 w4 := after hW3 hB4
    have hL4 : LedIn w4 w4.heap.size A1 n A2 n' L := HW2.out.to C2
    have hP4 : Posts w4 w4.heap.size A3 k ps := ⟨HPLEN.out, Reads.of_own (own_kept hown3 hB4 (Nat.le_refl _))⟩
    have KRP : ∀ W, Below w4.heap.size w4 W → Hid (Calls Try.prog 30 #[.agg #[.int .i64 s, .slice A1 n c1, .slice A2 n' c2], .slice A3 k c3] W (GivesRead W (Pa, ea))) := by
      intro W hW
      have := rpost_any A1 n c1 A2 n' c2 A3 k c3 L ps W (hL4.to hW) ((hP4.later (Nat.le_refl _) hW).more hW.size) (by omega) (by omega) (by omega) HWF.out
      rw [rpostR_eq, HRA.out, HSS.out] at this
      exact this
    have KRL : ∀ W, Below w4.heap.size w4 W → Hid (Calls Try.prog 31 #[.agg #[.int .i64 s, .slice A1 n c1, .slice A2 n' c2], .int .i64 mo, .int .i64 du] W (GivesRead W (Pc, ec))) := by
      intro W hW
      have := rlearn_any A1 n c1 A2 n' c2 L mo du W (hL4.to hW) m0 d0
      rw [HRC.out, HSS.out] at this
      exact this
    have HP4 := Lib.hid hP4
    have HL4 := Lib.hid hL4
    refine (KP _ C4).out.mono ?_
    rintro e w5 ⟨A5, c5, A6, c6, rfl, ho5, hb5⟩
    have E5 : Below w4.heap.size w4 w5 := hb5
    clear f0 f1 f2 hown3 hg3 hat3 KD hP4 hL4 hb5 KP
    dsimp only at ho5
    dsimp only
    obtain ⟨_, _, r0, r1, r2⟩ := (V _ E5).out
    have rz : w3.heap.size + 1 < w5.heap.size := by have := E5.size; omega
    go_wp2_with fail
    obtain ⟨cm5, zm5, mm5⟩ := boxed3 w5 (.int .i64 Pa.start) (.slice A5 Pa.due.length c5) (.slice A6 Pa.posts.length c6) 25
    have hs5 : (w5.alloc (.cells #[.int .i64 Pa.start, .slice A5 Pa.due.length c5, .slice A6 Pa.posts.length c6] 25)).heap.size = w5.heap.size + 1 := by simp
    generalize World.alloc w5 _ = v5 at *
    have Ev5 := after E5 cm5
    refine (KRP _ Ev5).out.mono ?_
    rintro e w6 ⟨A7, c7, A8, c8, rfl, hL6, hb6⟩
    have E6 := after Ev5 hb6
    have M5 := fun W (hW : Below v5.heap.size v5 W) => Lib.hid (held3 hW zm5 mm5)
    clear r0 r1 r2 rz KRP mm5
    dsimp only at hL6
    dsimp only
    obtain ⟨⟨f0, f1, f2⟩, _, _⟩ := (V _ E6).out
    have fz : w.heap.size < w6.heap.size := by have := E6.size; have := C4.size; omega
    go_wp2_with fail
    obtain ⟨cm6, zm6, mm6⟩ := boxed3 w6 (.int .i64 Pa.start) (.slice A7 Pa.due.length c7) (.slice A8 Pa.posts.length c8) 38
    generalize World.alloc w6 _ = v6 at *
    have Ev6 := after E6 cm6
    refine (KL _ (after C4 Ev6)).out.mono ?_
    rintro e w7 ⟨A9, c9, A10, c10, rfl, ho7, hb7⟩
    have E7 := after Ev6 hb7
    have M6 := fun W (hW : Below v6.heap.size v6 W) => Lib.hid (held3 hW zm6 mm6)
    clear f0 f1 f2 fz KL mm6
    dsimp only at ho7
    dsimp only
    obtain ⟨_, _, r0, r1, r2⟩ := (V _ E7).out
    have rz : w3.heap.size + 1 < w7.heap.size := by have := E7.size; omega
    go_wp2_with fail
    obtain ⟨cm7, zm7, mm7⟩ := boxed3 w7 (.int .i64 Pc.start) (.slice A9 Pc.due.length c9) (.slice A10 Pc.posts.length c10) 25
    generalize World.alloc w7 _ = v7 at *
    have Ev7 := after E7 cm7
    refine (KRL _ Ev7).out.mono ?_
    rintro e w8 ⟨A11, c11, A12, c12, rfl, hL8, hb8⟩
    have E8 := after Ev7 hb8
    have M7 := fun W (hW : Below v7.heap.size v7 W) => Lib.hid (held3 hW zm7 mm7)
    clear r0 r1 r2 rz KRL mm7
    dsimp only at hL8
    dsimp only
    have gs : Pa.due.length ≤ 5000 ∧ Pa.posts.length ≤ 20000 ∧ Pc.due.length ≤ 5000 ∧ Pc.posts.length ≤ 20000 := by omega
    obtain ⟨g1, g2, g3, g4⟩ := gs
    have HA := Lib.hid (ho5.led hL6.wfp hL6.wfd hL6.s0 hL6.s1)
    have HCc := Lib.hid (ho7.led hL8.wfp hL8.wfd hL8.s0 hL8.s1)
    have HL6 := Lib.hid hL6
    have HL8 := Lib.hid hL8
    have HO5 := Lib.hid ho5
    have HO7 := Lib.hid ho7
    clear la lc ho5 ho7 hL6 hL8
    obtain ⟨Pas, Pad, Pap⟩ := Pa
    obtain ⟨Pcs, Pcd, Pcp⟩ := Pc
    dsimp only at *
    generalize hna : Pad.length = na at *
    generalize hpa : Pap.length = pa at *
    generalize hnc : Pcd.length = nc at *
    generalize hpc : Pcp.length = pc at *
    have HNA := Lib.hid hna
    have HPA := Lib.hid hpa
    have HNC := Lib.hid hnc
    have HPC := Lib.hid hpc
    clear hna hpa hnc hpc
    obtain ⟨cm8, zm8, mm8⟩ := boxed3 w8 (.int .i64 Pcs) (.slice A11 nc c11) (.slice A12 pc c12) 38
    have d56 := after hb6 cm6
    have d67 := after hb7 cm7
    have d78 := after hb8 cm8
    have d57 := after d56 d67
    have d68 := after d67 d78
    have d58 := after d57 d78
    have Ev8 := after E8 cm8
    have M8 := fun W (hW : Below (w8.alloc (.cells #[.int .i64 Pcs, .slice A11 nc c11, .slice A12 pc c12] 38)).heap.size (w8.alloc (.cells #[.int .i64 Pcs, .slice A11 nc c11, .slice A12 pc c12] 38)) W) => Lib.hid (held3 hW zm8 mm8)
    obtain ⟨a0, a1, a2⟩ := (M5 _ (after d57 hb8)).out
    obtain ⟨b0, b1, b2⟩ := (M6 _ (after d67 hb8)).out
    have az : w5.heap.size < w8.heap.size := by have := (after d57 hb8).size; omega
    have bz : w6.heap.size < w8.heap.size := by have := (after d67 hb8).size; omega
    clear mm8 d56 d67 d57
    go_wp2_with fail
    generalize World.alloc w8 _ = v8 at *
    have KAB : Hid (Calls Try.prog 14 #[.agg #[.int .i64 Pas, .slice A5 na c5, .slice A6 pa c6], .agg #[.int .i64 Pas, .slice A7 na c7, .slice A8 pa c8]] v8 fun e w' => e = .returned (.bool true) ∧ Below v8.heap.size v8 w') := by
      have hA := HA.out.to (after cm5 d58)
      have hB := HL6.out.to (after cm6 d68)
      exact same_true Pas Pad Pap A5 A7 A6 A8 na c5 c7 pa c6 c8 v8 hA.due hB.due hA.posts hB.posts (by omega) (by omega)
    refine KAB.out.mono ?_
    rintro e w9 ⟨rfl, hb9⟩
    have E9 := after Ev8 hb9
    clear a0 a1 a2 b0 b1 b2 az bz KAB
    obtain ⟨a0, a1, a2⟩ := (M7 _ (after d78 hb9)).out
    obtain ⟨b0, b1, b2⟩ := (M8 _ hb9).out
    have KCD : Hid (Calls Try.prog 14 #[.agg #[.int .i64 Pcs, .slice A9 nc c9, .slice A10 pc c10], .agg #[.int .i64 Pcs, .slice A11 nc c11, .slice A12 pc c12]] w9 fun e w' => e = .returned (.bool true) ∧ Below w9.heap.size w9 w') := by
      have hA := HCc.out.to (after cm7 (after d78 hb9))
      have hB := HL8.out.to (after cm8 hb9)
      exact same_true Pcs Pcd Pcp A9 A11 A10 A12 nc c9 c11 pc c10 c12 w9 hA.due hB.due hA.posts hB.posts (by omega) (by omega)
    go_wp2_with fail
    refine KCD.out.mono ?_
    rintro e w10 ⟨rfl, hb10⟩
    have E10 := after E9 hb10
    have h910 := after hb9 hb10
    clear a0 a1 a2 b0 b1 b2 KCD M6 M8
    obtain ⟨a0, a1, a2⟩ := (M5 _ (after d58 h910)).out
    obtain ⟨b0, b1, b2⟩ := (M7 _ (after d78 h910)).out
    have hZ0 : Both w4 w4 w10.heap.size w4.heap.size v6.heap.size Pas A5 na c5 A6 pa c6 Pcs A9 nc c9 A10 pc c10 (w10.alloc (.cells #[.int .i64 Pas, .slice A5 na c5, .slice A6 pa c6, .int .i64 Pcs, .slice A9 nc c9, .slice A10 pc c10] 25)) := by
      have r5 : Below w5.heap.size w5 w10 := after cm5 (after d58 h910)
      have r7 : Below w7.heap.size w7 w10 := after cm7 (after d78 h910)
      have t5 : w5.heap.size ≤ v6.heap.size := by have := cm5.size; have := (after hb6 cm6).size; omega
      have t7 : w7.heap.size ≤ w10.heap.size := r7.size
      have t6 : v6.heap.size ≤ w7.heap.size := hb7.size
      have ra := Rows2.of HO5.out
      have rc := Rows2.of HO7.out
      have e5 : ∀ k, (Value.slice A5 na c5).ownBlock = some k → w4.heap.size ≤ k ∧ k < w5.heap.size := fun k hk => HO5.out.due.lt k (by rw [show (⟨Pas, Pad, Pap⟩ : Led).due.length = na from HNA.out]; exact hk)
      have e6 : ∀ k, (Value.slice A6 pa c6).ownBlock = some k → w4.heap.size ≤ k ∧ k < w5.heap.size := fun k hk => HO5.out.posts.lt k (by rw [show (⟨Pas, Pad, Pap⟩ : Led).posts.length = pa from HPA.out]; exact hk)
      have e7 : ∀ k, (Value.slice A9 nc c9).ownBlock = some k → v6.heap.size ≤ k ∧ k < w7.heap.size := fun k hk => HO7.out.due.lt k (by rw [show (⟨Pcs, Pcd, Pcp⟩ : Led).due.length = nc from HNC.out]; exact hk)
      have e8 : ∀ k, (Value.slice A10 pc c10).ownBlock = some k → v6.heap.size ≤ k ∧ k < w7.heap.size := fun k hk => HO7.out.posts.lt k (by rw [show (⟨Pcs, Pcd, Pcp⟩ : Led).posts.length = pc from HPC.out]; exact hk)
      rw [show (⟨Pas, Pad, Pap⟩ : Led).due.length = na from HNA.out, show (⟨Pas, Pad, Pap⟩ : Led).posts.length = pa from HPA.out] at ra
      rw [show (⟨Pcs, Pcd, Pcp⟩ : Led).due.length = nc from HNC.out, show (⟨Pcs, Pcd, Pcp⟩ : Led).posts.length = pc from HPC.out] at rc
      refine ⟨after E10 (by go_grown), by simp, heap_at rfl, ra.far (fun k hk => ?_) (fun k hk => ?_), rc.far (fun k hk => ?_) (fun k hk => ?_), fun k hk => ?_, fun k hk => ?_, fun k hk => ?_, fun k hk => ?_, ?_, ?_, Nat.le_refl _⟩
      · have := e5 k hk; exact (Below.heap_alloc _ _ _ (by have := r5.size; omega)).trans (r5.block k this.2)
      · have := e6 k hk; exact (Below.heap_alloc _ _ _ (by have := r5.size; omega)).trans (r5.block k this.2)
      · have := e7 k hk; exact (Below.heap_alloc _ _ _ (by have := r7.size; omega)).trans (r7.block k this.2)
      · have := e8 k hk; exact (Below.heap_alloc _ _ _ (by have := r7.size; omega)).trans (r7.block k this.2)
      · have := e5 k hk; omega
      · have := e6 k hk; omega
      · have := e7 k hk; omega
      · have := e8 k hk; omega
      · have := E5.size; omega
      · omega
    have HZ0 := Lib.hid hZ0
    clear M5 M7 hZ0 HA HCc HL6 HL8 HO5 HO7 HNA HPA HNC HPC hb6 hb7 hb8 hb9 hb10 h910 d78 d68 d58 cm5 cm6 cm7 cm8 zm5 zm6 zm7 zm8
    go_wp2_with fail
    clear a0 a1 a2 b0 b1 b2
    go_loopw [106] (fun i wr => ∃ q : Nat, q ≤ 2 ∧ i = .int .i64 q ∧ Both w4 w4 w10.heap.size w4.heap.size v6.heap.size Pas A5 na c5 A6 pa c6 Pcs A9 nc c9 A10 pc c10 wr) (fun i _ => 2 - (intOf i).toNat)
    case atStart => exact ⟨0, by omega, rfl, HZ0.out⟩
    case round =>
      obtain ⟨q, hq, rfl, hZ⟩ := hrel
      have hP := hZ.pair
      have hxz := hZ.size
      by_cases hq0 : q = 0
      · subst hq0
        have x0 : wr.cell? ⟨w10.heap.size, 0, none⟩ = some (.int .i64 Pas) := cell_of_row _ _ 0 _ _ _ hP
        have x1 : wr.cell? ⟨w10.heap.size, 1, none⟩ = some (.slice A5 na c5) := cell_of_row _ _ 1 _ _ _ hP
        have x2 : wr.cell? ⟨w10.heap.size, 2, none⟩ = some (.slice A6 pa c6) := cell_of_row _ _ 2 _ _ _ hP
        clear hP
        have k1 := hZ.a1
        have k2 := hZ.a2
        have hc := Cnt.start (ty := 25) (s := Pas) hZ.ra (fun k hk => ⟨(k1 k hk).1, by have := (k1 k hk).2; have := hZ.size; have := hZ.cx; omega⟩) (fun k hk => ⟨(k2 k hk).1, by have := (k2 k hk).2; have := hZ.size; have := hZ.cx; omega⟩)
        clear k1 k2
        have HZ := Lib.hid hZ
        obtain ⟨wz, rfl⟩ : ∃ wz : World, wz = wr := ⟨_, rfl⟩
        clear hZ
        go_wp2_with fail
        generalize hws : World.alloc wz _ = ws at *
        have HWS := Lib.hid hws
        clear hws x0 x1 x2
        obtain ⟨⟨x0, x1, x2⟩, y0, y1, y2⟩ := hc.box
        have HC := Lib.hid hc
        clear hc
        go_loopw [113] (fun i wr => ∃ j : Nat, j ≤ na ∧ i = .int .i64 j ∧ Cnt ws w4.heap.size wz.heap.size (Pas) A5 (na) c5 A6 (pa) c6 wr) (fun i _ => na - (intOf i).toNat)
        case atStart => exact ⟨0, Nat.zero_le _, rfl, HC.out⟩
        case round =>
          obtain ⟨j, hj, rfl, hi⟩ := hrel
          clear x0 x1 x2 y0 y1 y2
          obtain ⟨⟨x0, x1, x2⟩, y0, y1, y2⟩ := hi.box
          have Hi := Lib.hid hi
          by_cases hlt : j < na
          · obtain ⟨g, v, hg, hgl, z0, z1⟩ := hi.see1 hlt
            clear hi
            subst hg
            have hki : (j : Int) < ((na : Nat) : Int) := by omega
            go_wp2_with fail
            go_roundw
            case rel => exact ⟨j + 1, by omega, by go_num, Hi.out.one hlt _⟩
            case measure => simp [intOf]; omega
          · clear hi
            go_wp2_with fail
            obtain ⟨wo, rfl⟩ : ∃ wo : World, wo = wr := ⟨_, rfl⟩
            go_loopw [127] (fun i wr => ∃ j : Nat, j ≤ pa ∧ i = .int .i64 j ∧ Cnt ws w4.heap.size wz.heap.size (Pas) A5 (na) c5 A6 (pa) c6 wr) (fun i _ => pa - (intOf i).toNat)
            case atStart => exact ⟨0, Nat.zero_le _, rfl, Hi.out⟩
            case round =>
              obtain ⟨j2, hj2, rfl, hi⟩ := hrel
              clear x0 x1 x2 y0 y1 y2
              obtain ⟨⟨x0, x1, x2⟩, y0, y1, y2⟩ := hi.box
              have Hi2 := Lib.hid hi
              by_cases hlt2 : j2 < pa
              · obtain ⟨g, v, hg, hgl, z0, z1⟩ := hi.see2 hlt2
                clear hi
                subst hg
                have hki : (j2 : Int) < ((pa : Nat) : Int) := by omega
                go_wp2_with fail
                go_roundw
                case rel => exact ⟨j2 + 1, by omega, by go_num, Hi2.out.two hlt2 _⟩
                case measure => simp [intOf]; omega
              · have hend := HWS.out.symm ▸ Hi2.out
                have HE := Lib.hid hend
                clear hi x0 x1 x2 y0 y1 y2 hend
                go_wp2_with fail
                go_roundw
                case rel => first | exact ⟨1, by omega, rfl, HZ.out.goa HE.out⟩ | exact ⟨2, by omega, rfl, HZ.out.goa HE.out⟩
                case measure => simp [intOf]
      · by_cases hq1 : q = 1
        · subst hq1
          have x0 : wr.cell? ⟨w10.heap.size, 3, none⟩ = some (.int .i64 Pcs) := cell_of_row _ _ 3 _ _ _ hP
          have x1 : wr.cell? ⟨w10.heap.size, 4, none⟩ = some (.slice A9 nc c9) := cell_of_row _ _ 4 _ _ _ hP
          have x2 : wr.cell? ⟨w10.heap.size, 5, none⟩ = some (.slice A10 pc c10) := cell_of_row _ _ 5 _ _ _ hP
          clear hP
          have k1 := hZ.c1
          have k2 := hZ.c2
          have hc := Cnt.start (ty := 25) (s := Pcs) hZ.rc (fun k hk => ⟨(k1 k hk).1, by have := (k1 k hk).2; have := hZ.size; have := hZ.cx; omega⟩) (fun k hk => ⟨(k2 k hk).1, by have := (k2 k hk).2; have := hZ.size; have := hZ.cx; omega⟩)
          clear k1 k2
          have HZ := Lib.hid hZ
          obtain ⟨wz, rfl⟩ : ∃ wz : World, wz = wr := ⟨_, rfl⟩
          clear hZ
          go_wp2_with fail
          generalize hws : World.alloc wz _ = ws at *
          have HWS := Lib.hid hws
          clear hws x0 x1 x2
          obtain ⟨⟨x0, x1, x2⟩, y0, y1, y2⟩ := hc.box
          have HC := Lib.hid hc
          clear hc
          go_loopw [113] (fun i wr => ∃ j : Nat, j ≤ nc ∧ i = .int .i64 j ∧ Cnt ws v6.heap.size wz.heap.size (Pcs) A9 (nc) c9 A10 (pc) c10 wr) (fun i _ => nc - (intOf i).toNat)
          case atStart => exact ⟨0, Nat.zero_le _, rfl, HC.out⟩
          case round =>
            obtain ⟨j, hj, rfl, hi⟩ := hrel
            clear x0 x1 x2 y0 y1 y2
            obtain ⟨⟨x0, x1, x2⟩, y0, y1, y2⟩ := hi.box
            have Hi := Lib.hid hi
            by_cases hlt : j < nc
            · obtain ⟨g, v, hg, hgl, z0, z1⟩ := hi.see1 hlt
              clear hi
              subst hg
              have hki : (j : Int) < ((nc : Nat) : Int) := by omega
              go_wp2_with fail
              go_roundw
              case rel => exact ⟨j + 1, by omega, by go_num, Hi.out.one hlt _⟩
              case measure => simp [intOf]; omega
            · clear hi
              go_wp2_with fail
              obtain ⟨wo, rfl⟩ : ∃ wo : World, wo = wr := ⟨_, rfl⟩
              go_loopw [127] (fun i wr => ∃ j : Nat, j ≤ pc ∧ i = .int .i64 j ∧ Cnt ws v6.heap.size wz.heap.size (Pcs) A9 (nc) c9 A10 (pc) c10 wr) (fun i _ => pc - (intOf i).toNat)
              case atStart => exact ⟨0, Nat.zero_le _, rfl, Hi.out⟩
              case round =>
                obtain ⟨j2, hj2, rfl, hi⟩ := hrel
                clear x0 x1 x2 y0 y1 y2
                obtain ⟨⟨x0, x1, x2⟩, y0, y1, y2⟩ := hi.box
                have Hi2 := Lib.hid hi
                by_cases hlt2 : j2 < pc
                · obtain ⟨g, v, hg, hgl, z0, z1⟩ := hi.see2 hlt2
                  clear hi
                  subst hg
                  have hki : (j2 : Int) < ((pc : Nat) : Int) := by omega
                  go_wp2_with fail
                  go_roundw
                  case rel => exact ⟨j2 + 1, by omega, by go_num, Hi2.out.two hlt2 _⟩
                  case measure => simp [intOf]; omega
                · have hend := HWS.out.symm ▸ Hi2.out
                  have HE := Lib.hid hend
                  clear hi x0 x1 x2 y0 y1 y2 hend
                  go_wp2_with fail
                  go_roundw
                  case rel => first | exact ⟨1, by omega, rfl, HZ.out.goc HE.out⟩ | exact ⟨2, by omega, rfl, HZ.out.goc HE.out⟩
                  case measure => simp [intOf]
        · obtain rfl : q = 2 := by omega
          clear hP
          have Ew := hZ.below
          have hBw := after C4 Ew
          have HBw := Lib.hid Ew
          have RP : ∀ j, j < k → ∀ W, Below wr.heap.size wr W → Hid (∃ x b o, ps[j]? = some x ∧ B = some ⟨b, o, none⟩ ∧ b < W.heap.size ∧ W.cell? ⟨b, o + j * 4, none⟩ = some (.int .i64 x.day) ∧ W.cell? ⟨b, o + j * 4 + 1, none⟩ = some (.int .i64 x.month) ∧ W.cell? ⟨b, o + j * 4 + 2, none⟩ = some (.int .u8 x.kind) ∧ W.cell? ⟨b, o + j * 4 + 3, none⟩ = some (.int .i64 x.amount)) := by
            intro j hj W hW
            obtain ⟨x, b, o, h1, h2, h3, h4⟩ := (HP.out.later (Nat.le_refl _) (after hBw hW)).at_ hj
            exact ⟨x, b, o, h1, h2, by have := (after hBw hW).size; omega, h4⟩
          have RQ : ∀ j, j < k → ∀ W, Below wr.heap.size wr W → Hid (∃ x b o, ps[j]? = some x ∧ A3 = some ⟨b, o, none⟩ ∧ b < W.heap.size ∧ W.cell? ⟨b, o + j * 4, none⟩ = some (.int .i64 x.day) ∧ W.cell? ⟨b, o + j * 4 + 1, none⟩ = some (.int .i64 x.month) ∧ W.cell? ⟨b, o + j * 4 + 2, none⟩ = some (.int .u8 x.kind) ∧ W.cell? ⟨b, o + j * 4 + 3, none⟩ = some (.int .i64 x.amount)) := by
            intro j hj W hW
            obtain ⟨x, b, o, h1, h2, h3, h4⟩ := (HP4.out.later (Nat.le_refl _) (after Ew hW)).at_ hj
            exact ⟨x, b, o, h1, h2, by have := (after Ew hW).size; omega, h4⟩
          have KSl : ∀ W, Below w4.heap.size w4 W → Hid (Calls Try.prog 14 #[.agg #[.int .i64 s, .slice A n c, .slice A' n' c'], .agg #[.int .i64 s, .slice A1 n c1, .slice A2 n' c2]] W fun e w' => e = .returned (.bool true) ∧ Below W.heap.size W w') := fun W hW =>
            same_true s L.due L.posts A A1 A' A2 n c c1 n' c' c2 W (HI.out.to (after C4 hW)).due (HL4.out.to hW).due (HI.out.to (after C4 hW)).posts (HL4.out.to hW).posts (by omega) (by omega)
          clear hZ
          obtain ⟨wz, rfl⟩ : ∃ wz : World, wz = wr := ⟨_, rfl⟩
          go_wp2_with fail
          go_loopw [143] (fun i wr => ∃ j : Nat, j ≤ k ∧ i = .int .i64 j ∧ Below wz.heap.size wz wr) (fun i _ => k - (intOf i).toNat)
          case atStart => exact ⟨0, Nat.zero_le _, rfl, Below.refl _ _⟩
          case round =>
            obtain ⟨j, hj, rfl, hb⟩ := hrel
            by_cases hlt : j < k
            · obtain ⟨x, b, o, hx, rfl, hbB, x0, x1, x2, x3⟩ := (RP j hlt _ hb).out
              obtain ⟨y, b2, o2, hy, hA3, hbB2, y0, y1, y2, y3⟩ := (RQ j hlt _ hb).out
              subst hA3
              obtain rfl : x = y := by rw [hx] at hy; injection hy
              have X0 : ∀ p : Later wr, p.val.cell? ⟨b, o + j * 4, none⟩ = some (.int .i64 x.day) := fun p => p.cell hbB x0
              have X1 : ∀ p : Later wr, p.val.cell? ⟨b, o + j * 4 + 1, none⟩ = some (.int .i64 x.month) := fun p => p.cell hbB x1
              have X2 : ∀ p : Later wr, p.val.cell? ⟨b, o + j * 4 + 2, none⟩ = some (.int .u8 x.kind) := fun p => p.cell hbB x2
              have X3 : ∀ p : Later wr, p.val.cell? ⟨b, o + j * 4 + 3, none⟩ = some (.int .i64 x.amount) := fun p => p.cell hbB x3
              have Y0 : ∀ p : Later wr, p.val.cell? ⟨b2, o2 + j * 4, none⟩ = some (.int .i64 x.day) := fun p => p.cell hbB2 y0
              have Y1 : ∀ p : Later wr, p.val.cell? ⟨b2, o2 + j * 4 + 1, none⟩ = some (.int .i64 x.month) := fun p => p.cell hbB2 y1
              have Y2 : ∀ p : Later wr, p.val.cell? ⟨b2, o2 + j * 4 + 2, none⟩ = some (.int .u8 x.kind) := fun p => p.cell hbB2 y2
              have Y3 : ∀ p : Later wr, p.val.cell? ⟨b2, o2 + j * 4 + 3, none⟩ = some (.int .i64 x.amount) := fun p => p.cell hbB2 y3
              have NE := neq_same x
              have HB2 := Lib.hid hb
              have hki : (j : Int) < (k : Int) := by omega
              have hk0 : (0 : Int) ≤ (j : Int) := by omega
              clear hx hy x0 x1 x2 x3 y0 y1 y2 y3 hb RP RQ V KSl
              go_wp2_with fail
              (refine wp_region_later (by kernel_rfl) (by kernel_rfl) ?_; (repeat (first | go_big_quiet_step ((fail)) | quiet_step ((fail)))); refine wpQuiet_nil ?_; intro _ hw1; obtain ⟨pq, hw2⟩ := hw1; subst hw2)
              clear X0 X1 X2 X3 Y0 Y1 Y2 Y3 NE
              go_wp2
              go_roundw
              case rel => exact ⟨j + 1, by omega, by go_num, after HB2.out pq.ok⟩
              case measure => simp [intOf]; omega
            · have E11 := after Ew hb
              obtain ⟨⟨f0, f1, f2⟩, ⟨r0, r1, r2⟩, _⟩ := (V _ E11).out
              clear RP RQ V hb
              go_wp2_with fail
              refine (KSl _ E11).out.mono ?_
              rintro e wy ⟨rfl, hby⟩
              clear f0 f1 f2 r0 r1 r2 KSl
              go_wp2_with fail
              refine (KW _).out.mono ?_
              rintro e wv ⟨rfl, hbv⟩
              have B9 := after C4 (after E11 (after hby hbv))
              go_wp2
              go_ret
              exact ⟨rfl, B9⟩

set_option maxRecDepth 100000 in
set_option maxHeartbeats 1000000 in
theorem changes_walk (A : Option Addr) (n c : Nat) (A' : Option Addr) (n' c' : Nat) (B : Option Addr) (k d : Nat) (L : Led) (ps : List Paid) (mo du : Int) (w : World) (h : LedIn w w.heap.size A n A' n' L) (hp : Posts w w.heap.size B k ps) (hwf : ∀ p ∈ ps, p.wf) (hk63 : k ≤ 9223372036854775807)
    (m0 : -9223372036854775808 ≤ mo ∧ mo ≤ 9223372036854775807) (d0 : -9223372036854775808 ≤ du ∧ du ≤ 9223372036854775807) :
    Calls Try.prog 6 #[.agg #[.int .i64 L.start, .slice A n c, .slice A' n' c'], .slice B k d, .int .i64 mo, .int .i64 du] w fun e w' => e = .returned (.bool true) ∧ Below w.heap.size w w' := by
  have KW := fun W => Lib.hid (awake_any W)
  cases hf : fewB n n'
  · have KF : ∀ W, Hid (Calls Try.prog 18 #[.agg #[.int .i64 L.start, .slice A n c, .slice A' n' c']] W fun e w' => e = .returned (.bool false) ∧ Below W.heap.size W w') := fun W => hf ▸ few_any L.start A n c A' n' c' W h.n0 h.n1
    clear h hf hp hwf
    go_enter Try.func6, Try.ntmps6
    go_wp2_with fail
    refine (KF _).out.mono ?_
    rintro e w1 ⟨rfl, hb1⟩
    have hB1 : Below w.heap.size w w1 := after (by go_grown) hb1
    clear KF hb1
    go_wp2_with fail
    refine (KW _).out.mono ?_
    rintro e w2 ⟨rfl, hb2⟩
    have hB2 := after hB1 hb2
    go_wp2
    go_ret
    exact ⟨rfl, hB2⟩
  · by_cases hk : k ≤ 20 ∨ 4000 < k ∧ k ≤ 4002
    · exact changes_main A n c A' n' c' B k d L ps mo du w h hp hwf hf hk m0 d0
    · have KF : ∀ W, Hid (Calls Try.prog 18 #[.agg #[.int .i64 L.start, .slice A n c, .slice A' n' c']] W fun e w' => e = .returned (.bool true) ∧ Below W.heap.size W w') := fun W => hf ▸ few_any L.start A n c A' n' c' W h.n0 h.n1
      clear h hf hp hwf
      by_cases hk2 : k ≤ 4000
      all_goals
        have i1 : 20 < k := by omega
        have i2 : k ≤ 4000 ∨ 4002 < k := by omega
        go_enter Try.func6, Try.ntmps6
        go_wp2_with fail
        refine (KF _).out.mono ?_
        rintro e w1 ⟨rfl, hb1⟩
        have hB1 : Below w.heap.size w w1 := after (by go_grown) hb1
        clear KF hb1
        have i3 : k ≤ 4000 ∨ 4002 < k := by omega
        clear i2
        go_wp2_with fail
      · refine (KW _).out.mono ?_
        rintro e w2 ⟨rfl, hb2⟩
        have hB2 := after hB1 hb2
        go_wp2
        go_ret
        exact ⟨rfl, hB2⟩
      · refine (KW _).out.mono ?_
        rintro e w2 ⟨rfl, hb2⟩
        have hB2 := after hB1 hb2
        go_wp2
        go_ret
        exact ⟨rfl, hB2⟩
end Go.Proofs.Ytmaojcjnpblffaa
