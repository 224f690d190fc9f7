/- A copy of a ledger, as the law package makes it. -/
import Derived.Test.YtmaojcjnpblffaaLedFirm
namespace Go.Proofs.Ytmaojcjnpblffaa
open Go.RowKit BigFrame
set_option linter.unusedVariables false

/-- The append at a step of a region that draws its order. -/
theorem ElemT.step_append {P : Program} {t e : TypeId} {z : Value} {size bytes : Nat} (E : ElemT P t e z size bytes) {ops : Array Oper} {o : Oper} {a : Act} {K : Act → World → Prop} {Q : Exit → Act → World → Prop} {F : Prop} (hgd : o.guard = none) (s x : Operand)
    (ho : o.op = .call { callee := .builtin .append, args := #[s, x], argTypes := #[t, t] }) {w : World} {base n : Nat} {v : Value} {xs : List Value} (hs : a.eval s = v) (hown : w.ownsRow base e size v n xs)
    {B : Nat} {A : Option Addr} {m c : Nat} {news : List Value} (hx : a.eval x = .slice A m c) (hr : Reads w B size A m news) (h1 : ∀ u ∈ news, u.oneCell' = true) (h63 : n + m ≤ maxLen) (hb : (n + m) * bytes ≤ 140737488355328) (hbase : base ≤ w.heap.size)
    (h : ∀ v' w', w'.ownsRow base e size v' (n + m) (xs ++ news) → w.grownBy w' v.ownBlock → (v'.ownBlock = v.ownBlock ∨ v'.ownBlock = some w.heap.size) → K (a.put o.dst v') w') :
    if Region.wanted o (yielded ops a.tmps) = true then Oper.wp P o a w K Q else F := by
  have hw : Region.wanted o (yielded ops a.tmps) = true := by simp [Region.wanted, hgd]
  rw [if_pos hw]
  exact E.wp_append s x ho hs hown hx hr h1 h63 hb hbase h
theorem lit_own {w : World} {base g size : Nat} {e : TypeId} (hg : base ≤ g) (h : w.heap[g]? = some (.cells #[] e (0, 0))) : w.ownsRow base e size (.slice (some ⟨g, 0, none⟩) 0 0) 0 [] :=
  ⟨by simp, .inr ⟨g, 0, #[], rfl, hg, h, Nat.le_refl _, Nat.zero_le _, by simp, by simp⟩⟩

set_option maxRecDepth 100000 in
set_option maxHeartbeats 4000000 in
theorem copied_any (A : Option Addr) (n c : Nat) (A' : Option Addr) (n' c' : Nat) (L : Led) (w : World) (h : LedIn w w.heap.size A n A' n' L) (hn : n ≤ 4000000000) (hn' : n' ≤ 4000000000) :
    Calls Try.prog 19 #[.agg #[.int .i64 L.start, .slice A n c, .slice A' n' c']] w fun e w' => ∃ A1 c1 A2 c2, e = .returned (.agg #[.int .i64 L.start, .slice A1 n c1, .slice A2 n' c2]) ∧ OwnLed w' w.heap.size A1 c1 A2 c2 L ∧ Below w.heap.size w w' := by
  have hlen := h.due.len
  have hlen' := h.posts.len
  have KD := fun W (hW : Below w.heap.size w W) => Lib.hid ((h.to hW).due.reads)
  have KQ := fun W (hW : Below w.heap.size w W) => Lib.hid ((h.to hW).posts.reads)
  clear h
  generalize L.start = s at *
  go_enter Try.func19, Try.ntmps19
  go_wp2_with fail
  have hB0 : Below w.heap.size w ((w.alloc (.cells #[.int .i64 s, .slice A n c, .slice A' n' c'] 25)).alloc (.cells #[.int .i64 0, .slice none 0 0, .slice none 0 0] 25)) := by go_grown
  have hz0 : ((w.alloc (.cells #[.int .i64 s, .slice A n c, .slice A' n' c'] 25)).alloc (.cells #[.int .i64 0, .slice none 0 0, .slice none 0 0] 25)).heap.size = w.heap.size + 2 := by simp
  have hx0 := Box3.new (w.alloc (.cells #[.int .i64 s, .slice A n c, .slice A' n' c'] 25)) (.int .i64 0) (.slice none 0 0) (.slice none 0 0) 25
  have hy0 := (boxed3 w (.int .i64 s) (.slice A n c) (.slice A' n' c') 25)
  rw [show (w.alloc (.cells #[.int .i64 s, .slice A n c, .slice A' n' c'] 25)).heap.size = w.heap.size + 1 by simp] at hx0
  have hy1 := held3 (Below.refl _ _ |>.alloc (Nat.le_refl _) (.cells #[.int .i64 0, .slice none 0 0, .slice none 0 0] 25)) hy0.2.1 hy0.2.2
  clear hy0
  generalize (World.alloc (World.alloc w _) _) = W0 at *
  have hz1 : w.heap.size + 1 ≤ W0.heap.size := by omega
  have KS := fun W (hW : Below (w.heap.size + 1) W0 W) => (And.intro ((hW.cell (p := ⟨w.heap.size, 0, none⟩) (by simp)).trans hy1.1) (And.intro ((hW.cell (p := ⟨w.heap.size, 1, none⟩) (by simp)).trans hy1.2.1) ((hW.cell (p := ⟨w.heap.size, 2, none⟩) (by simp)).trans hy1.2.2)))
  have KX := fun W (hW : Below W0.heap.size W0 W) => hx0.kept hW (by omega)
  go_region_held3 (fun W => W.cell? ⟨w.heap.size, 0, none⟩ = some (.int .i64 s) ∧ W.cell? ⟨w.heap.size, 1, none⟩ = some (.slice A n c) ∧ W.cell? ⟨w.heap.size, 2, none⟩ = some (.slice A' n' c')) (first | exact hS8 | exact hS12 | exact KS _ (by go_grown)) (first | (refine elemInt.step_append (by rfl) (.tmp 5) (.tmp 7) (by rfl) (by rfl) (lit_own (base := W0.heap.size) (by first | omega | (simp; done) | (simp; omega)) (by first | exact heap_at (by first | omega | (simp; done) | (simp; omega)) | exact (Below.heap_alloc _ _ _ (by first | omega | (simp; done) | (simp; omega))).trans (heap_at (by first | omega | (simp; done) | (simp; omega))) | exact (hg12.block _ (by first | omega | (simp; done) | (simp; omega)) (by simp [Value.ownBlock])).trans (heap_at (by first | omega | (simp; done) | (simp; omega))) | exact (hg12.block _ (by first | omega | (simp; done) | (simp; omega)) (by simp [Value.ownBlock])).trans ((Below.heap_alloc _ _ _ (by first | omega | (simp; done) | (simp; omega))).trans (heap_at (by first | omega | (simp; done) | (simp; omega)))))) (by rfl) ((KD _ (after hB0 (by first | exact hB12 | go_grown))).out) (ints_one _) (by unfold maxLen; omega) (by omega) (by first | omega | (simp; done) | (simp; omega)) ?_; intro v8 w8 hown8 hg8 hat8; obtain ⟨A1, c1, hv8, _⟩ := own_shape hown8; subst hv8; have hB8 : Below W0.heap.size W0 w8 := Below.grown (by first | exact hB12 | go_grown) hg8 (by first | omega | (simp; done) | (simp; omega)) (fun k hk => by cases hk; first | omega | (simp; done) | (simp; omega)); have hs8 := hB8.size; have hC8 : Below (w.heap.size + 1) W0 w8 := hB8.mono hz1; have hS8 := KS _ hC8; obtain ⟨⟨a0, a1, a2⟩, y0, y1, y2⟩ := KX _ hB8) | (refine elemPaid.step_append (by rfl) (.tmp 9) (.tmp 11) (by rfl) (by rfl) (lit_own (base := W0.heap.size) (by first | omega | (simp; done) | (simp; omega)) (by first | exact heap_at (by first | omega | (simp; done) | (simp; omega)) | exact (Below.heap_alloc _ _ _ (by first | omega | (simp; done) | (simp; omega))).trans (heap_at (by first | omega | (simp; done) | (simp; omega))) | exact (hg8.block _ (by first | omega | (simp; done) | (simp; omega)) (by simp [Value.ownBlock])).trans (heap_at (by first | omega | (simp; done) | (simp; omega))) | exact (hg8.block _ (by first | omega | (simp; done) | (simp; omega)) (by simp [Value.ownBlock])).trans ((Below.heap_alloc _ _ _ (by first | omega | (simp; done) | (simp; omega))).trans (heap_at (by first | omega | (simp; done) | (simp; omega)))))) (by rfl) ((KQ _ (after hB0 (by first | exact hB8 | go_grown))).out) (paids_one _) (by unfold maxLen; omega) (by omega) (by first | omega | (simp; done) | (simp; omega)) ?_; intro v12 w12 hown12 hg12 hat12; obtain ⟨A2, c2, hv12, _⟩ := own_shape hown12; subst hv12; have hB12 : Below W0.heap.size W0 w12 := Below.grown (by first | exact hB8 | go_grown) hg12 (by first | omega | (simp; done) | (simp; omega)) (fun k hk => by cases hk; first | omega | (simp; done) | (simp; omega)); have hs12 := hB12.size; have hC12 : Below (w.heap.size + 1) W0 w12 := hB12.mono hz1; have hS12 := KS _ hC12; obtain ⟨⟨a0, a1, a2⟩, y0, y1, y2⟩ := KX _ hB12))
  all_goals
    simp only [Nat.zero_add, List.nil_append] at hown8 hown12
    have k8 := hown8.lt
    have k12 := hown12.lt
    simp only [Nat.zero_add] at k8 k12 hat8 hat12
    have hp : w12.ownsRow W0.heap.size 3 1 (.slice A1 n c1) n (ints L.due) := by
      first
      | exact own_grown (hown8.alloc _) hg12 (fun k hk e => by have := k8 k hk; rw [hk] at hat8; simp [Value.ownBlock] at hat8 e; omega)
      | exact own_grown hown8 hg12 (fun k hk e => by have := k8 k hk; rw [hk] at hat8; simp [Value.ownBlock] at hat8 e; omega)
    have HP := Lib.hid hp
    have HQ := Lib.hid hown12
    have HB := Lib.hid hB12
    clear hown8 hg8 hat8 hg12 hat12 hB8 hC8 hC12 hS8 hS12 hp hown12 hB12 k8 k12 KS KX KD KQ
    go_wp2
    refine bodyPost_ret (v := .agg #[.int .i64 s, .slice A1 n c1, .slice A2 n' c2]) (by simp [results, Try.results19, go_sem, a0, a1, a2]) rfl ?_
    have hb := after hB0 HB.out
    refine ⟨A1, c1, A2, c2, rfl, ⟨?_, ?_⟩, ?_⟩
    · rw [hlen]
      exact own_more (ownsRow_setCell_below (ownsRow_setCell_below (ownsRow_setCell_below HP.out (by dsimp only; omega) _) (by dsimp only; omega) _) (by dsimp only; omega) _) (by omega)
    · rw [hlen']
      exact own_more (ownsRow_setCell_below (ownsRow_setCell_below (ownsRow_setCell_below HQ.out (by dsimp only; omega) _) (by dsimp only; omega) _) (by dsimp only; omega) _) (by omega)
    · go_grown
end Go.Proofs.Ytmaojcjnpblffaa
