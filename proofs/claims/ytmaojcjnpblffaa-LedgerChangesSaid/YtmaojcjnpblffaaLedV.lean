/- The reference's Post and Learn. -/
import Derived.Test.YtmaojcjnpblffaaLedTellsW
import Derived.Deep.CutRange
namespace Go.Proofs.Ytmaojcjnpblffaa
open Go.RowKit BigFrame
set_option linter.unusedVariables false

def rpostR (L : Led) (ps : List Paid) : Led × Int :=
  if validB L = false ∨ ((L.posts ++ ps).all (fitsB L.start L.due.length) && sortedB (fun a b => a.day - b.day) (L.posts ++ ps)) = false then (Led.zero, 2)
  else if 4000 < L.posts.length + ps.length then (Led.zero, 5) else (L.plus ps, 0)
theorem rpostR_eq (L : Led) (ps : List Paid) : rpostR L ps = postR L ps := by
  unfold rpostR postR
  cases hv : validB L
  · simp
  · obtain ⟨_, _, _, h4, h5⟩ := valid_here hv
    have e : ((L.posts ++ ps).all (fitsB L.start L.due.length) && sortedB (fun a b => a.day - b.day) (L.posts ++ ps)) = ((ps.all (fitsB L.start L.due.length) && sortedB (fun a b => a.day - b.day) ps) && joinsB L.posts ps) := by
      have := sorted_append L.posts ps
      unfold dayCmp at this
      rw [this, h5, List.all_append, List.all_eq_true.2 h4, Bool.true_and, Bool.true_and, Bool.and_assoc]
    rw [e]
    cases h1 : (ps.all (fitsB L.start L.due.length) && sortedB (fun a b => a.day - b.day) ps) <;> cases h2 : joinsB L.posts ps <;> simp <;> rfl

/-- A call that hands back a ledger that can be read, and an error's number. -/
def GivesRead (w : World) (r : Led × Int) (e : Ending) (w' : World) : Prop :=
  ∃ A c A' c', e = .returned (.tuple #[.agg #[.int .i64 r.1.start, .slice A r.1.due.length c, .slice A' r.1.posts.length c'], .int .i64 r.2]) ∧ LedIn w' w'.heap.size A r.1.due.length A' r.1.posts.length r.1 ∧ Below w.heap.size w w'
theorem led_zero (w : World) : LedIn w w.heap.size none 0 none 0 Led.zero :=
  ⟨⟨rfl, Reads.none_⟩, ⟨rfl, Reads.none_⟩, by simp [Led.zero], by simp [Led.zero], by simp [Led.zero], by simp [Led.zero], by omega, by omega⟩

set_option maxRecDepth 100000 in
set_option maxHeartbeats 4000000 in
theorem rpost_any (A : Option Addr) (n c : Nat) (A' : Option Addr) (n' c' : Nat) (B : Option Addr) (k d : Nat) (L : Led) (ps : List Paid) (w : World) (h : LedIn w w.heap.size A n A' n' L) (hp : Posts w w.heap.size B k ps) (hn : n ≤ 5000) (hn' : n' ≤ 5000) (hk : k ≤ 5000) (hwf : ∀ p ∈ ps, p.wf) :
    Calls Try.prog 30 #[.agg #[.int .i64 L.start, .slice A n c, .slice A' n' c'], .slice B k d] w (GivesRead w (rpostR L ps)) := by
  have KD := fun W (hW : Below w.heap.size w W) => Lib.hid ((h.to hW).posts.reads)
  have KE := fun W (hW : Below w.heap.size w W) => Lib.hid (hp.reads.later (Nat.le_refl _) hW)
  have KV := fun W (hW : Below w.heap.size w W) => Lib.hid (rvalid_any A n c A' n' c' L W (h.to hW))
  generalize hss : L.start = s at *
  have hlen := h.due.len
  have hlen' := h.posts.len
  have hplen := hp.len
  have HI := Lib.hid h
  have HS := Lib.hid hss
  have HPW := Lib.hid hwf
  clear h hp hwf hss
  have HB1 : ∀ W, Below (w.heap.size + 2) (((w.alloc (.cells #[.int .i64 s, .slice A n c, .slice A' n' c'] 38)).alloc (.cells #[.int .i64 0, .slice none 0 0, .slice none 0 0] 38)).alloc (.cells #[] 47)) W → Below w.heap.size w W := fun W hW => (show Below w.heap.size w _ by go_grown).trans (hW.mono (by omega))
  cases hv : validB L
  · have hr : rpostR L ps = (Led.zero, 2) := by unfold rpostR; rw [if_pos (.inl hv)]
    rw [hv] at KV
    rw [hr]
    clear hr hv
    go_enter Try.func30, Try.ntmps30
    go_upto_region 2 with (at_builtin; first | (refine elemPaid.list_append rfl (.tmp 7) (.tmp 9) rfl rfl (lit_own (base := w.heap.size + 2) (g := w.heap.size + 2) (Nat.le_refl _) (heap_at (by simp))) rfl ((KD _ (by go_grown)).out) (paids_one _) (by unfold maxLen; omega) (by omega) (by simp) ?_; intro v1 w1 hown1 hg1 hat1; obtain ⟨A1, c1, hv1, _⟩ := own_shape hown1; subst hv1; have hW1 : Below (w.heap.size + 2) _ w1 := Below.grown (Below.refl _ _) hg1 (by simp) (fun g hg => by cases hg; exact Nat.le_refl _); simp only [Nat.zero_add, List.nil_append] at hown1) | (refine elemPaid.list_append rfl (.tmp 10) (.tmp 11) rfl rfl hown1 rfl ((KE _ (HB1 _ hW1)).out) (paids_one _) (by unfold maxLen; omega) (by omega) (by have := hW1.size; simp at this; omega) ?_; intro v2 w2 hown2 hg2 hat2; obtain ⟨A2, c2, hv2, _⟩ := own_shape hown2; subst hv2; have hW2 : Below (w.heap.size + 2) _ w2 := Below.grown hW1 hg2 (by have := hW1.size; simp at this; omega) (fun g hg => (hown1.lt g hg).1)))
    have B2 : Below w.heap.size w w2 := HB1 _ hW2
    have hs2 : w.heap.size + 2 ≤ w2.heap.size := by have := hW2.size; simp at this; omega
    have f0 : w2.cell? ⟨w.heap.size, 0, none⟩ = some (.int .i64 s) := (hW2.cell (by dsimp only; omega)).trans (by simp [go_sem])
    have f1 : w2.cell? ⟨w.heap.size, 1, none⟩ = some (.slice A n c) := (hW2.cell (by dsimp only; omega)).trans (by simp [go_sem])
    have f2 : w2.cell? ⟨w.heap.size, 2, none⟩ = some (.slice A' n' c') := (hW2.cell (by dsimp only; omega)).trans (by simp [go_sem])
    have F := fun W (hW : Below w2.heap.size w2 W) => Lib.hid (held3 hW (show w.heap.size < w2.heap.size by omega) ⟨f0, f1, f2⟩)
    have hx0 : Box3 w2 (w.heap.size + 1) (.int .i64 0) (.slice none 0 0) (.slice none 0 0) := by
      obtain ⟨hc, hf⟩ := bcell hW2
      refine ⟨⟨?_, ?_, ?_⟩, ?_, ?_, ?_⟩
      · rw [hc _ _ (by omega)]; simp [go_sem]
      · rw [hc _ _ (by omega)]; simp [go_sem]
      · rw [hc _ _ (by omega)]; simp [go_sem]
      · rw [hf _ _ (by omega)]; simp [go_sem]
      · rw [hf _ _ (by omega)]; simp [go_sem]
      · rw [hf _ _ (by omega)]; simp [go_sem]
    have X := fun W (hW : Below w2.heap.size w2 W) => Lib.hid (hx0.kept hW (by omega))
    have HO := Lib.hid hown2
    clear hown1 hg1 hat1 hW1 hown2 hg2 hat2 hW2 hx0 HB1 KD KE
    go_wp2_with fail
    refine (KV _ B2).out.mono ?_
    rintro e w3 ⟨rfl, hb3⟩
    clear f0 f1 f2
    have B3 := after B2 hb3
    obtain ⟨⟨x0, x1, x2⟩, y0, y1, y2⟩ := (X _ hb3).out
    have hz : w.heap.size + 1 < w3.heap.size := by have := Below.size hb3; omega
    clear X F HO
    go_wp2
    refine bodyPost_ret (v := .tuple #[.agg #[.int .i64 0, .slice none 0 0, .slice none 0 0], .int .i64 2]) (by simp [results, Try.results30, go_sem, x0, x1, x2]) rfl ?_
    exact ⟨none, 0, none, 0, rfl, led_zero _, by have := B3; go_grown⟩
  · obtain ⟨⟨s0, s1, s2⟩, _, h3, _, _⟩ := valid_here hv
    rw [HS.out, hlen] at s1
    rw [HS.out] at s0
    have KP : ∀ A2 c2 W, Posts W W.heap.size A2 (n' + k) (L.posts ++ ps) → Hid (Calls Try.prog 41 #[.agg #[.int .i64 s, .slice A n c, .slice A' n' c'], .slice A2 (n' + k) c2] W fun e w' => e = .returned (.bool ((L.posts ++ ps).all (fitsB s n) && sortedB (fun a b => a.day - b.day) (L.posts ++ ps))) ∧ Below W.heap.size W w') := fun A2 c2 W hP =>
      rposts_any s A A' n c n' c' A2 (n' + k) c2 (L.posts ++ ps) W s0 (by omega) (by omega) hP (by omega) (fun p hp => (List.mem_append.1 hp).elim (HI.out.wfp p) (HPW.out p))
    have hr0 : rpostR L ps = if ((L.posts ++ ps).all (fitsB s n) && sortedB (fun a b => a.day - b.day) (L.posts ++ ps)) = false then (Led.zero, 2) else if 4000 < n' + k then (Led.zero, 5) else (L.plus ps, 0) := by
      unfold rpostR; rw [hv, HS.out, hlen, hlen', hplen]; simp
    rw [hv] at KV
    generalize ((L.posts ++ ps).all (fitsB s n) && sortedB (fun a b => a.day - b.day) (L.posts ++ ps)) = r at *
    have POS : ∀ A2 c2 W0 W, W0.ownsRow (w.heap.size + 2) 47 4 (.slice A2 (n' + k) c2) (n' + k) (paids L.posts ++ paids ps) → Below W0.heap.size W0 W → Posts W W.heap.size A2 (n' + k) (L.posts ++ ps) := by
      intro A2 c2 W0 W ho hW
      refine ⟨by rw [List.length_append, hlen', hplen], ?_⟩
      rw [paids_append]
      exact Reads.of_own (own_kept ho hW (Nat.le_refl _))
    have HLEN := Lib.hid hlen
    have HLEN' := Lib.hid hlen'
    have HPLEN := Lib.hid hplen
    clear hlen hlen' hplen hv h3 s2
    cases r
    · rw [if_pos rfl] at hr0
      rw [hr0]
      clear hr0
      go_enter Try.func30, Try.ntmps30
      go_upto_region 2 with (at_builtin; first | (refine elemPaid.list_append rfl (.tmp 7) (.tmp 9) rfl rfl (lit_own (base := w.heap.size + 2) (g := w.heap.size + 2) (Nat.le_refl _) (heap_at (by simp))) rfl ((KD _ (by go_grown)).out) (paids_one _) (by unfold maxLen; omega) (by omega) (by simp) ?_; intro v1 w1 hown1 hg1 hat1; obtain ⟨A1, c1, hv1, _⟩ := own_shape hown1; subst hv1; have hW1 : Below (w.heap.size + 2) _ w1 := Below.grown (Below.refl _ _) hg1 (by simp) (fun g hg => by cases hg; exact Nat.le_refl _); simp only [Nat.zero_add, List.nil_append] at hown1) | (refine elemPaid.list_append rfl (.tmp 10) (.tmp 11) rfl rfl hown1 rfl ((KE _ (HB1 _ hW1)).out) (paids_one _) (by unfold maxLen; omega) (by omega) (by have := hW1.size; simp at this; omega) ?_; intro v2 w2 hown2 hg2 hat2; obtain ⟨A2, c2, hv2, _⟩ := own_shape hown2; subst hv2; have hW2 : Below (w.heap.size + 2) _ w2 := Below.grown hW1 hg2 (by have := hW1.size; simp at this; omega) (fun g hg => (hown1.lt g hg).1)))
      have B2 : Below w.heap.size w w2 := HB1 _ hW2
      have hs2 : w.heap.size + 2 ≤ w2.heap.size := by have := hW2.size; simp at this; omega
      have f0 : w2.cell? ⟨w.heap.size, 0, none⟩ = some (.int .i64 s) := (hW2.cell (by dsimp only; omega)).trans (by simp [go_sem])
      have f1 : w2.cell? ⟨w.heap.size, 1, none⟩ = some (.slice A n c) := (hW2.cell (by dsimp only; omega)).trans (by simp [go_sem])
      have f2 : w2.cell? ⟨w.heap.size, 2, none⟩ = some (.slice A' n' c') := (hW2.cell (by dsimp only; omega)).trans (by simp [go_sem])
      have F := fun W (hW : Below w2.heap.size w2 W) => Lib.hid (held3 hW (show w.heap.size < w2.heap.size by omega) ⟨f0, f1, f2⟩)
      have hx0 : Box3 w2 (w.heap.size + 1) (.int .i64 0) (.slice none 0 0) (.slice none 0 0) := by
        obtain ⟨hc, hf⟩ := bcell hW2
        refine ⟨⟨?_, ?_, ?_⟩, ?_, ?_, ?_⟩
        · rw [hc _ _ (by omega)]; simp [go_sem]
        · rw [hc _ _ (by omega)]; simp [go_sem]
        · rw [hc _ _ (by omega)]; simp [go_sem]
        · rw [hf _ _ (by omega)]; simp [go_sem]
        · rw [hf _ _ (by omega)]; simp [go_sem]
        · rw [hf _ _ (by omega)]; simp [go_sem]
      have X := fun W (hW : Below w2.heap.size w2 W) => Lib.hid (hx0.kept hW (by omega))
      have HO := Lib.hid hown2
      clear hown1 hg1 hat1 hW1 hown2 hg2 hat2 hW2 hx0 HB1 KD KE
      go_wp2_with fail
      refine (KV _ B2).out.mono ?_
      rintro e w3 ⟨rfl, hb3⟩
      clear f0 f1 f2
      have B3 := after B2 hb3
      obtain ⟨f0, f1, f2⟩ := (F _ hb3).out
      go_wp2_with fail
      refine (KP _ _ _ (POS _ _ _ _ HO.out hb3)).out.mono ?_
      rintro e w4 ⟨rfl, hb4⟩
      have E4 := after hb3 hb4
      have B4 := after B2 E4
      clear f0 f1 f2 KP POS
      obtain ⟨⟨x0, x1, x2⟩, y0, y1, y2⟩ := (X _ E4).out
      have hz : w.heap.size + 1 < w4.heap.size := by have := Below.size E4; omega
      clear X F HO
      go_wp2
      refine bodyPost_ret (v := .tuple #[.agg #[.int .i64 0, .slice none 0 0, .slice none 0 0], .int .i64 2]) (by simp [results, Try.results30, go_sem, x0, x1, x2]) rfl ?_
      exact ⟨none, 0, none, 0, rfl, led_zero _, by have := B4; go_grown⟩
    · rw [if_neg (by simp)] at hr0
      by_cases hm : 4000 < n' + k
      · rw [if_pos hm] at hr0
        rw [hr0]
        clear hr0
        go_enter Try.func30, Try.ntmps30
        go_upto_region 2 with (at_builtin; first | (refine elemPaid.list_append rfl (.tmp 7) (.tmp 9) rfl rfl (lit_own (base := w.heap.size + 2) (g := w.heap.size + 2) (Nat.le_refl _) (heap_at (by simp))) rfl ((KD _ (by go_grown)).out) (paids_one _) (by unfold maxLen; omega) (by omega) (by simp) ?_; intro v1 w1 hown1 hg1 hat1; obtain ⟨A1, c1, hv1, _⟩ := own_shape hown1; subst hv1; have hW1 : Below (w.heap.size + 2) _ w1 := Below.grown (Below.refl _ _) hg1 (by simp) (fun g hg => by cases hg; exact Nat.le_refl _); simp only [Nat.zero_add, List.nil_append] at hown1) | (refine elemPaid.list_append rfl (.tmp 10) (.tmp 11) rfl rfl hown1 rfl ((KE _ (HB1 _ hW1)).out) (paids_one _) (by unfold maxLen; omega) (by omega) (by have := hW1.size; simp at this; omega) ?_; intro v2 w2 hown2 hg2 hat2; obtain ⟨A2, c2, hv2, _⟩ := own_shape hown2; subst hv2; have hW2 : Below (w.heap.size + 2) _ w2 := Below.grown hW1 hg2 (by have := hW1.size; simp at this; omega) (fun g hg => (hown1.lt g hg).1)))
        have B2 : Below w.heap.size w w2 := HB1 _ hW2
        have hs2 : w.heap.size + 2 ≤ w2.heap.size := by have := hW2.size; simp at this; omega
        have f0 : w2.cell? ⟨w.heap.size, 0, none⟩ = some (.int .i64 s) := (hW2.cell (by dsimp only; omega)).trans (by simp [go_sem])
        have f1 : w2.cell? ⟨w.heap.size, 1, none⟩ = some (.slice A n c) := (hW2.cell (by dsimp only; omega)).trans (by simp [go_sem])
        have f2 : w2.cell? ⟨w.heap.size, 2, none⟩ = some (.slice A' n' c') := (hW2.cell (by dsimp only; omega)).trans (by simp [go_sem])
        have F := fun W (hW : Below w2.heap.size w2 W) => Lib.hid (held3 hW (show w.heap.size < w2.heap.size by omega) ⟨f0, f1, f2⟩)
        have hx0 : Box3 w2 (w.heap.size + 1) (.int .i64 0) (.slice none 0 0) (.slice none 0 0) := by
          obtain ⟨hc, hf⟩ := bcell hW2
          refine ⟨⟨?_, ?_, ?_⟩, ?_, ?_, ?_⟩
          · rw [hc _ _ (by omega)]; simp [go_sem]
          · rw [hc _ _ (by omega)]; simp [go_sem]
          · rw [hc _ _ (by omega)]; simp [go_sem]
          · rw [hf _ _ (by omega)]; simp [go_sem]
          · rw [hf _ _ (by omega)]; simp [go_sem]
          · rw [hf _ _ (by omega)]; simp [go_sem]
        have X := fun W (hW : Below w2.heap.size w2 W) => Lib.hid (hx0.kept hW (by omega))
        have HO := Lib.hid hown2
        clear hown1 hg1 hat1 hW1 hown2 hg2 hat2 hW2 hx0 HB1 KD KE
        go_wp2_with fail
        refine (KV _ B2).out.mono ?_
        rintro e w3 ⟨rfl, hb3⟩
        clear f0 f1 f2
        have B3 := after B2 hb3
        obtain ⟨f0, f1, f2⟩ := (F _ hb3).out
        go_wp2_with fail
        refine (KP _ _ _ (POS _ _ _ _ HO.out hb3)).out.mono ?_
        rintro e w4 ⟨rfl, hb4⟩
        have E4 := after hb3 hb4
        have B4 := after B2 E4
        clear f0 f1 f2 KP POS
        obtain ⟨⟨x0, x1, x2⟩, y0, y1, y2⟩ := (X _ E4).out
        have hz : w.heap.size + 1 < w4.heap.size := by have := Below.size E4; omega
        clear X F HO
        go_wp2
        refine bodyPost_ret (v := .tuple #[.agg #[.int .i64 0, .slice none 0 0, .slice none 0 0], .int .i64 5]) (by simp [results, Try.results30, go_sem, x0, x1, x2]) rfl ?_
        exact ⟨none, 0, none, 0, rfl, led_zero _, by have := B4; go_grown⟩
      · rw [if_neg hm] at hr0
        rw [hr0]
        clear hr0
        go_enter Try.func30, Try.ntmps30
        go_upto_region 2 with (at_builtin; first | (refine elemPaid.list_append rfl (.tmp 7) (.tmp 9) rfl rfl (lit_own (base := w.heap.size + 2) (g := w.heap.size + 2) (Nat.le_refl _) (heap_at (by simp))) rfl ((KD _ (by go_grown)).out) (paids_one _) (by unfold maxLen; omega) (by omega) (by simp) ?_; intro v1 w1 hown1 hg1 hat1; obtain ⟨A1, c1, hv1, _⟩ := own_shape hown1; subst hv1; have hW1 : Below (w.heap.size + 2) _ w1 := Below.grown (Below.refl _ _) hg1 (by simp) (fun g hg => by cases hg; exact Nat.le_refl _); simp only [Nat.zero_add, List.nil_append] at hown1) | (refine elemPaid.list_append rfl (.tmp 10) (.tmp 11) rfl rfl hown1 rfl ((KE _ (HB1 _ hW1)).out) (paids_one _) (by unfold maxLen; omega) (by omega) (by have := hW1.size; simp at this; omega) ?_; intro v2 w2 hown2 hg2 hat2; obtain ⟨A2, c2, hv2, _⟩ := own_shape hown2; subst hv2; have hW2 : Below (w.heap.size + 2) _ w2 := Below.grown hW1 hg2 (by have := hW1.size; simp at this; omega) (fun g hg => (hown1.lt g hg).1)))
        have B2 : Below w.heap.size w w2 := HB1 _ hW2
        have hs2 : w.heap.size + 2 ≤ w2.heap.size := by have := hW2.size; simp at this; omega
        have f0 : w2.cell? ⟨w.heap.size, 0, none⟩ = some (.int .i64 s) := (hW2.cell (by dsimp only; omega)).trans (by simp [go_sem])
        have f1 : w2.cell? ⟨w.heap.size, 1, none⟩ = some (.slice A n c) := (hW2.cell (by dsimp only; omega)).trans (by simp [go_sem])
        have f2 : w2.cell? ⟨w.heap.size, 2, none⟩ = some (.slice A' n' c') := (hW2.cell (by dsimp only; omega)).trans (by simp [go_sem])
        have F := fun W (hW : Below w2.heap.size w2 W) => Lib.hid (held3 hW (show w.heap.size < w2.heap.size by omega) ⟨f0, f1, f2⟩)
        have hx0 : Box3 w2 (w.heap.size + 1) (.int .i64 0) (.slice none 0 0) (.slice none 0 0) := by
          obtain ⟨hc, hf⟩ := bcell hW2
          refine ⟨⟨?_, ?_, ?_⟩, ?_, ?_, ?_⟩
          · rw [hc _ _ (by omega)]; simp [go_sem]
          · rw [hc _ _ (by omega)]; simp [go_sem]
          · rw [hc _ _ (by omega)]; simp [go_sem]
          · rw [hf _ _ (by omega)]; simp [go_sem]
          · rw [hf _ _ (by omega)]; simp [go_sem]
          · rw [hf _ _ (by omega)]; simp [go_sem]
        have X := fun W (hW : Below w2.heap.size w2 W) => Lib.hid (hx0.kept hW (by omega))
        have HO := Lib.hid hown2
        clear hown1 hg1 hat1 hW1 hown2 hg2 hat2 hW2 hx0 HB1 KD KE
        go_wp2_with fail
        refine (KV _ B2).out.mono ?_
        rintro e w3 ⟨rfl, hb3⟩
        clear f0 f1 f2
        have B3 := after B2 hb3
        obtain ⟨f0, f1, f2⟩ := (F _ hb3).out
        go_wp2_with fail
        refine (KP _ _ _ (POS _ _ _ _ HO.out hb3)).out.mono ?_
        rintro e w4 ⟨rfl, hb4⟩
        have E4 := after hb3 hb4
        have B4 := after B2 E4
        have hO4 := Lib.hid (own_kept HO.out E4 (Nat.le_refl _))
        clear f0 f1 f2 KP POS HO
        obtain ⟨f0, f1, f2⟩ := (F _ E4).out
        obtain ⟨⟨x0, x1, x2⟩, y0, y1, y2⟩ := (X _ E4).out
        have hz : w.heap.size + 1 < w4.heap.size := by have := E4.size; omega
        clear X F
        go_wp2
        refine bodyPost_ret (v := .tuple #[.agg #[.int .i64 s, .slice A n c, .slice A2 (n' + k) c2], .int .i64 0]) (by simp [results, Try.results30, go_sem, x0, x1, x2]) rfl ?_
        refine ⟨A, c, A2, c2, ?_, ?_, by have := B4; go_grown⟩
        · show _ = Ending.returned (.tuple #[.agg #[.int .i64 L.start, .slice A L.due.length c, .slice A2 (L.posts ++ ps).length c2], .int .i64 0])
          rw [HS.out, HLEN.out, List.length_append, HLEN'.out, HPLEN.out]
        · show LedIn _ _ A L.due.length A2 (L.posts ++ ps).length (L.plus ps)
          rw [HLEN.out, List.length_append, HLEN'.out, HPLEN.out]
          refine ⟨(HI.out.to (by have := B4; go_grown)).due, ⟨by show (L.posts ++ ps).length = _; rw [List.length_append, HLEN'.out, HPLEN.out], ?_⟩,
            fun p hp => (List.mem_append.1 (show p ∈ L.posts ++ ps from hp)).elim (HI.out.wfp p) (HPW.out p), HI.out.wfd, HI.out.s0, HI.out.s1, HI.out.n0, by omega⟩
          show Reads _ _ _ _ _ (paids (L.posts ++ ps))
          rw [paids_append]
          exact Reads.of_own (ownsRow_setCell_below (ownsRow_setCell_below (ownsRow_setCell_below hO4.out (by dsimp only; omega) _) (by dsimp only; omega) _) (by dsimp only; omega) _)
end Go.Proofs.Ytmaojcjnpblffaa
