/- Copies of bytes; Scan. -/
import Derived.Test.YtbkicepkkcambaaJouF
import Derived.Test.YtbkicepkkcambaaRngR
namespace Go.Proofs.Ytbkicepkkcambaa
open Go.RowKit BigFrame Go.Shelf
set_option linter.unusedVariables false
set_option linter.unusedSimpArgs false
attribute [local go_sem] Oper.semAt_some

theorem elemText : ElemT Try.prog 23 25 (.slice none 0 0) 1 24 := ⟨Try.underlying23, by kernel_rfl, rfl, by omega⟩
/-- A call that hands back a slice of n elements with the cells xs, in memory of its own. -/
def GivesRow (w : World) (E : TypeId) (size n : Nat) (xs : List Value) (e : Ending) (w' : World) : Prop :=
  ∃ A c, e = .returned (.slice A n c) ∧ w'.ownsRow w.heap.size E size (.slice A n c) n xs ∧ Below w.heap.size w w'

set_option maxHeartbeats 400000 in
theorem clone_byte (A : Option Addr) (n c : Nat) (l : Bytes) (w : World) (hr : Bys w w.heap.size A n l) (hn : n ≤ 100000000000) :
    Calls Try.prog 29 #[.slice A n c] w (GivesRow w 5 1 n (bys l)) := by
  have hq := fun A (w : World) => Lib.run_eql_slice_nil (P := Try.prog) w 25 5 A n c 0 0 Try.underlying25
  have hrr := Lib.hid hr
  clear hr
  cases A with
  | none =>
    go_enter Try.func29, Try.ntmps29
    go_wp2
    go_ret
    have hn0 : n = 0 := by
      by_cases h : n = 0
      · exact h
      · obtain ⟨_, _, h', _⟩ := hrr.out.reads.2 (by omega)
        cases h'
    subst hn0
    have hl : l = [] := List.eq_nil_of_length_eq_zero hrr.out.len
    subst hl
    exact ⟨none, 0, rfl, World.ownsRow_nil _ _ _ _, Below.refl _ _⟩
  | some ad =>
    go_enter Try.func29, Try.ntmps29
    go_wp2_with (at_builtin; refine elemByte.list_append rfl (.tmp 5) (.tmp 6) rfl rfl (World.ownsRow_lit (base := w.heap.size) (e := 5) (size := 1) w #[] 0 (Nat.le_refl _) (by unfold maxLen; omega) rfl) rfl (hrr.out.reads.alloc (Nat.le_refl _) _) (bys_one l) (by unfold maxLen; omega) (by omega) (by simp) ?_; intro v' w' hown hg hat)
    go_ret
    simp only [Nat.zero_add, List.nil_append] at hown
    obtain ⟨A1, c1, rfl, _⟩ := own_shape hown
    exact ⟨A1, c1, rfl, hown, (((Below.refl _ _).alloc (Nat.le_refl _) _).grown hg (by simp) (fun k hk => by cases hk; exact Nat.le_refl _))⟩

/-- Rows of the call's own, from block base on. -/
def OwnTexts (w : World) (base : Nat) : List Value → List Bytes → Prop
  | [], [] => True
  | v :: vs, x :: l => w.ownsRow base 5 1 v x.length (bys x) ∧ OwnTexts w base vs l
  | _, _ => False
theorem OwnTexts.map {w w' : World} {base : Nat} (H : ∀ (v : Value) (n : Nat) (xs : List Value), w.ownsRow base 5 1 v n xs → w'.ownsRow base 5 1 v n xs) : ∀ {vs : List Value} {l : List Bytes}, OwnTexts w base vs l → OwnTexts w' base vs l
  | [], [], _ => trivial
  | v :: vs, x :: l, h => ⟨H _ _ _ h.1, OwnTexts.map H h.2⟩
  | [], _ :: _, h => h.elim
  | _ :: _, [], h => h.elim
theorem OwnTexts.snoc {w : World} {base : Nat} {v : Value} {x : Bytes} (hv : w.ownsRow base 5 1 v x.length (bys x)) : ∀ {vs : List Value} {l : List Bytes}, OwnTexts w base vs l → OwnTexts w base (vs ++ [v]) (l ++ [x])
  | [], [], _ => ⟨hv, trivial⟩
  | v :: vs, x :: l, h => ⟨h.1, OwnTexts.snoc hv h.2⟩
  | [], _ :: _, h => h.elim
  | _ :: _, [], h => h.elim
theorem OwnTexts.len {w : World} {base : Nat} : ∀ {vs : List Value} {l : List Bytes}, OwnTexts w base vs l → vs.length = l.length
  | [], [], _ => rfl
  | v :: vs, x :: l, h => by simp [OwnTexts.len h.2]
  | [], _ :: _, h => h.elim
  | _ :: _, [], h => h.elim

/-- The payloads as they are handed over can be read. -/
theorem items_bys {w : World} {B : Nat} {A : Option Addr} {n c : Nat} {d : Bytes} (h : Bys w B A n d) : ∀ x ∈ items A c 0 (scan d), Bys w B x.A x.p.length x.p := by
  intro x hx
  obtain ⟨j, hj⟩ := List.mem_iff_getElem?.1 hx
  have hjl := (List.getElem?_eq_some_iff.1 hj).1
  rw [items_length] at hjl
  have hp : (scan d)[j]? = some (scan d)[j] := List.getElem?_eq_getElem hjl
  generalize (scan d)[j] = p at hp
  have hg := items_get A c _ 0 _ _ hp
  rw [hg] at hj
  injection hj with hj
  subst hj
  have hn := next_at (d := d) (j := j) (by omega)
  rw [hp] at hn
  obtain ⟨_, _, hs, hl, hd⟩ := nextR_some hn
  rw [List.length_drop, h.len] at hl
  show Bys w B (pay A (0 + sizes ((scan d).take j))) p.length p
  rw [Nat.zero_add]
  have hpp : ((d.drop (sizes ((scan d).take j))).drop 6).take p.length = p := by
    rw [hd]
    simp [formed, headOf, le]
  cases A with
  | none =>
    obtain ⟨_, _, h', _⟩ := h.reads.2 (by omega)
    cases h'
  | some a =>
    obtain ⟨b, o, h', _⟩ := h.reads.2 (by omega)
    cases h'
    have := h.part (i := sizes ((scan d).take j) + 6) (k := p.length) (by omega)
    rw [← List.drop_drop, hpp, ← Nat.add_assoc] at this
    exact this

/-- Where the last of them ends. -/
def lastEnd (l : List Item) : Nat := (l.getLast?.map Item.nxt).getD 0
theorem lastEnd_snoc (l : List Item) (x : Item) : lastEnd (l ++ [x]) = x.nxt := by simp [lastEnd]
theorem lastEnd_items (A : Option Addr) (c : Nat) : ∀ (l : List Bytes) (i : Nat), l ≠ [] → lastEnd (items A c i l) = i + sizes l
  | [], i, h => absurd rfl h
  | [p], i, _ => by simp [items, lastEnd, sizes]
  | p :: q :: l, i, _ => by
    have := lastEnd_items A c (q :: l) (i + (p.length + 10)) (by simp)
    rw [sizes_cons, ← Nat.add_assoc, ← this]
    simp [items, lastEnd]
theorem lastEnd_all (A : Option Addr) (c : Nat) (l : List Bytes) : lastEnd (items A c 0 l) = sizes l := by
  cases l with
  | nil => rfl
  | cons p l => rw [lastEnd_items A c _ _ (by simp), Nat.zero_add]
theorem items_texts (A : Option Addr) (c : Nat) : ∀ (l : List Bytes) (i : Nat), (items A c i l).map Item.p = l
  | [], i => rfl
  | p :: l, i => by simp [items, items_texts A c l]
/-- An own row abides new blocks, and turns of what is no row of its element type. -/
theorem own_abides {W W' : World} {base : Nat} {e T : TypeId} {size n : Nat} {v : Value} {xs : List Value} {row : Option Nat} (h : W.ownsRow base e size v n xs) (hg : W.grownBy W' row)
    (hr : ∀ r, row = some r → ∃ o : Obj, W.heap[r]? = some o ∧ (o.isCells = false ∨ ∃ cs fr, o = .cells cs T fr)) (hT : e ≠ T) : W'.ownsRow base e size v n xs :=
  own_grown h hg fun k hk e' => by
    obtain ⟨o, ho, hc⟩ := hr k e'
    rcases h.2 with ⟨rfl, _⟩ | ⟨g, cap, cur, rfl, _, hh, _⟩
    · simp [Value.ownBlock] at hk
    · simp [Value.ownBlock] at hk
      subst hk
      rw [hh] at ho
      injection ho with ho
      subst ho
      rcases hc with hc | ⟨_, _, hc⟩
      · simp [Obj.isCells] at hc
      · injection hc with _ h2
        exact hT h2

/-- What Scan has when some records have come. -/
def Scanned (w : World) (pre : List Item) (W : World) : Prop :=
  Below w.heap.size w W ∧ ∃ A' c' vs, W.heap[w.heap.size]? = some (.cells #[.slice A' pre.length c'] 23 (0, 0)) ∧ W.heap[w.heap.size + 1]? = some (.cells #[.int .i64 ((lastEnd pre : Nat) : Int)] 3 (0, 0)) ∧
    W.ownsRow w.heap.size 25 1 (.slice A' pre.length c') pre.length vs ∧ OwnTexts W w.heap.size vs (pre.map Item.p)
theorem scanned_abides (w : World) {B : Nat} (hB : w.heap.size + 1 < B) : AbidesT 85 B (Scanned w) := by
  rintro s W W' row ⟨hb, A', c', vs, h1, h2, h3, h4⟩ hg hr
  have l1 := row_lt h1
  have l2 := row_lt h2
  have hr' : ∀ r, row = some r → ∃ o : Obj, W.heap[r]? = some o ∧ (o.isCells = false ∨ ∃ cs fr, o = .cells cs 85 fr) := fun r e => (hr r e).2
  refine ⟨hb.trans ⟨hg.os, hg.tape, hg.output, hg.size, fun k hk => hg.block k (by omega) fun e => ?_⟩, A', c', vs, (hg.block _ l1 fun e => ?_).trans h1, (hg.block _ l2 fun e => ?_).trans h2, own_abides h3 hg hr' (by decide), h4.map fun v n xs h => own_abides h hg hr' (by decide)⟩
  · have := (hr k e.symm).1
    omega
  · have := (hr _ e.symm).1
    omega
  · have := (hr _ e.symm).1
    omega

theorem row_ne {w : World} {base b n size : Nat} {e T : TypeId} {v : Value} {xs : List Value} {cs : Array Value} {fr : Nat × Nat} (h : w.heap[b]? = some (.cells cs T fr)) (ho : w.ownsRow base e size v n xs) (hT : e ≠ T) : v.ownBlock ≠ some b := by
  intro e'
  rcases ho.2 with ⟨h2, _⟩ | ⟨g, cap, cur, hv, _, hh, _⟩
  · rw [h2] at e'; simp [Value.ownBlock] at e'
  · rw [hv] at e'
    have : g = b := by simpa [Value.ownBlock] using e'
    subst this
    rw [h] at hh
    injection hh with hh
    injection hh with _ ht
    exact hT ht.symm
theorem scan_round {w W w1 w2 : World} {pre : List Item} {x : Item} {B : Nat} {A' A1 A2 : Option Addr} {c' c1 c2 : Nat} {vs : List Value} {o : Obj}
    (hbW : Below w.heap.size w W) (h1 : W.heap[w.heap.size]? = some (.cells #[.slice A' pre.length c'] 23 (0, 0))) (h2 : W.heap[w.heap.size + 1]? = some (.cells #[.int .i64 ((lastEnd pre : Nat) : Int)] 3 (0, 0)))
    (h3 : W.ownsRow w.heap.size 25 1 (.slice A' pre.length c') pre.length vs) (h4 : OwnTexts W w.heap.size vs (pre.map Item.p))
    (hb1 : Below W.heap.size W w1) (ho1 : w1.ownsRow W.heap.size 5 1 (.slice A1 x.p.length c1) x.p.length (bys x.p)) (hg : (w1.alloc o).grownBy w2 (Value.slice A' pre.length c').ownBlock)
    (ho2 : w2.ownsRow w.heap.size 25 1 (.slice A2 (pre.length + 1) c2) (pre.length + 1) (vs ++ [.slice A1 x.p.length c1])) :
    KeepsFrom B W ((w2.setCell ⟨w.heap.size, 0, none⟩ (.slice A2 (pre.length + 1) c2)).setCell ⟨w.heap.size + 1, 0, none⟩ (.int .i64 x.nxt)) ∧ Kp w.heap.size 85 W ((w2.setCell ⟨w.heap.size, 0, none⟩ (.slice A2 (pre.length + 1) c2)).setCell ⟨w.heap.size + 1, 0, none⟩ (.int .i64 x.nxt)) ∧
      Scanned w (pre ++ [x]) ((w2.setCell ⟨w.heap.size, 0, none⟩ (.slice A2 (pre.length + 1) c2)).setCell ⟨w.heap.size + 1, 0, none⟩ (.int .i64 x.nxt)) := by
  have l1 := row_lt h1
  have l2 := row_lt h2
  have hs1 := hb1.size
  have hs2 : w1.heap.size + 1 ≤ w2.heap.size := by have := hg.size; simpa using this
  have n1 : (Value.slice A' pre.length c').ownBlock ≠ some w.heap.size := row_ne h1 h3 (by decide)
  have n2 : (Value.slice A' pre.length c').ownBlock ≠ some (w.heap.size + 1) := row_ne h2 h3 (by decide)
  have q : ∀ j, j < W.heap.size → (Value.slice A' pre.length c').ownBlock ≠ some j → w2.heap[j]? = W.heap[j]? := fun j hj hne =>
    (hg.block j (by simp; omega) (fun e => hne e.symm)).trans ((Below.heap_alloc _ _ _ (by omega)).trans (hb1.block j hj))
  have q2 : ∀ j, j < W.heap.size → (Value.slice A' pre.length c').ownBlock ≠ some j → j ≠ w.heap.size → j ≠ w.heap.size + 1 → ((w2.setCell ⟨w.heap.size, 0, none⟩ (.slice A2 (pre.length + 1) c2)).setCell ⟨w.heap.size + 1, 0, none⟩ (.int .i64 x.nxt)).heap[j]? = W.heap[j]? := fun j hj hne m1 m2 =>
    far_row (far_row (q j hj hne) m1 _) m2 _
  have hx1 : w2.heap[w.heap.size]? = some (.cells #[.slice A' pre.length c'] 23 (0, 0)) := (q _ l1 n1).trans h1
  have hx2 : w2.heap[w.heap.size + 1]? = some (.cells #[.int .i64 ((lastEnd pre : Nat) : Int)] 3 (0, 0)) := (q _ l2 n2).trans h2
  have hbig : Below w.heap.size W ((w2.setCell ⟨w.heap.size, 0, none⟩ (.slice A2 (pre.length + 1) c2)).setCell ⟨w.heap.size + 1, 0, none⟩ (.int .i64 x.nxt)) := by
    have hz : Below w.heap.size W w2 := ((hb1.mono (by omega)).alloc (by omega) _).grown hg (by simp; omega) (fun k hk => (h3.lt k hk).1)
    exact (hz.setCell (p := ⟨w.heap.size, 0, none⟩) (Nat.le_refl _) _).setCell (p := ⟨w.heap.size + 1, 0, none⟩) (by simp) _
  have keep : ∀ (j : Nat) (cs : Array Value) (T : TypeId) (fr : Nat × Nat), W.heap[j]? = some (.cells cs T fr) → T ≠ 25 → T ≠ 23 → T ≠ 3 → ((w2.setCell ⟨w.heap.size, 0, none⟩ (.slice A2 (pre.length + 1) c2)).setCell ⟨w.heap.size + 1, 0, none⟩ (.int .i64 x.nxt)).heap[j]? = W.heap[j]? := fun j cs T fr hj t1 t2 t3 =>
    q2 j (row_lt hj) (row_ne hj h3 (Ne.symm t1)) (fun e => by subst e; rw [h1] at hj; injection hj with hj; injection hj with _ hj; exact t2 hj.symm) (fun e => by subst e; rw [h2] at hj; injection hj with hj; injection hj with _ hj; exact t3 hj.symm)
  have m : ∀ (v : Value) (n : Nat) (xs : List Value), W.ownsRow w.heap.size 5 1 v n xs → (((w2.setCell ⟨w.heap.size, 0, none⟩ (.slice A2 (pre.length + 1) c2)).setCell ⟨w.heap.size + 1, 0, none⟩ (.int .i64 x.nxt))).ownsRow w.heap.size 5 1 v n xs := fun v n xs h => by
    have a1 := own_kept (own_kept h hb1 (Nat.le_refl _)) ((Below.refl _ w1).alloc (Nat.le_refl _) o) (Nat.le_refl _)
    have a2 := own_grown a1 hg (fun k hk e => own_ne a1 (own_kept (own_kept h3 hb1 (Nat.le_refl _)) ((Below.refl _ w1).alloc (Nat.le_refl _) o) (Nat.le_refl _)) (by decide) hk e)
    have a3 : (w2.setCell ⟨w.heap.size, 0, none⟩ (.slice A2 (pre.length + 1) c2)).ownsRow w.heap.size 5 1 v n xs := own_set (p := ⟨w.heap.size, 0, none⟩) a2 (fun k hk e => row_ne hx1 a2 (by decide) (hk.trans (congrArg some e))) _
    exact own_set (p := ⟨w.heap.size + 1, 0, none⟩) a3 (fun k hk e => row_ne (far_row (p := ⟨w.heap.size, 0, none⟩) hx2 (by simp) (.slice A2 (pre.length + 1) c2)) a3 (by decide) (hk.trans (congrArg some e))) _
  have b2 : (w2.setCell ⟨w.heap.size, 0, none⟩ (.slice A2 (pre.length + 1) c2)).ownsRow w.heap.size 25 1 (.slice A2 (pre.length + 1) c2) (pre.length + 1) (vs ++ [.slice A1 x.p.length c1]) :=
    own_set (p := ⟨w.heap.size, 0, none⟩) ho2 (fun k hk e => row_ne hx1 ho2 (by decide) (hk.trans (congrArg some e))) _
  have hy2 := far_row (p := ⟨w.heap.size, 0, none⟩) hx2 (by simp) (.slice A2 (pre.length + 1) c2)
  have b3 := own_set (p := ⟨w.heap.size + 1, 0, none⟩) b2 (fun k hk e => row_ne hy2 b2 (by decide) (hk.trans (congrArg some e))) (.int .i64 x.nxt)
  have hlen : (pre ++ [x]).length = pre.length + 1 := by simp
  have a0 := own_kept ho1 ((Below.refl _ w1).alloc (Nat.le_refl _) o) (Nat.le_refl _)
  have a1 := own_grown a0 hg (fun k hk e => own_ne a0 (own_kept (own_kept h3 hb1 (Nat.le_refl _)) ((Below.refl _ w1).alloc (Nat.le_refl _) o) (Nat.le_refl _)) (by decide) hk e)
  have a2 := own_set (p := ⟨w.heap.size, 0, none⟩) a1 (fun k hk e => row_ne hx1 a1 (by decide) (hk.trans (congrArg some e))) (.slice A2 (pre.length + 1) c2)
  have a3 := own_set (p := ⟨w.heap.size + 1, 0, none⟩) a2 (fun k hk e => row_ne hy2 a2 (by decide) (hk.trans (congrArg some e))) (.int .i64 x.nxt)
  refine ⟨⟨by have := hbig.size; exact this, fun j o' _ hj ho' => ?_⟩, ⟨hbig, fun r cs fr hr => keep r cs _ fr hr (by decide) (by decide) (by decide)⟩, hbW.trans hbig, A2, c2, vs ++ [.slice A1 x.p.length c1], ?_, ?_, ?_, ?_⟩
  · refine (q2 j (row_lt hj) (fun e => ?_) (fun e => ?_) (fun e => ?_)).trans hj
    · rcases h3.2 with ⟨h2', _⟩ | ⟨g, cap, cur, hv, _, hh, _⟩
      · rw [h2'] at e; simp [Value.ownBlock] at e
      · rw [hv] at e
        have : g = j := by simpa [Value.ownBlock] using e
        subst this
        rw [hj] at hh
        injection hh with hh
        subst hh
        simp [Obj.isCells] at ho'
    · subst e
      rw [h1] at hj
      injection hj with hj
      subst hj
      simp [Obj.isCells] at ho'
    · subst e
      rw [h2] at hj
      injection hj with hj
      subst hj
      simp [Obj.isCells] at ho'
  · rw [hlen]; exact far_row (set_row hx1 _) (by simp) _
  · rw [lastEnd_snoc]; exact set_row hy2 _
  · rw [hlen]; exact b3
  · rw [List.map_append]
    exact OwnTexts.snoc (own_more a3 (by have := hbW.size; omega)) (h4.map m)

theorem row_kept {w w' : World} {base b n size : Nat} {e T : TypeId} {v : Value} {xs : List Value} {cs : Array Value} {fr : Nat × Nat} {o : Obj} (h : w.heap[b]? = some (.cells cs T fr)) (ho : w.ownsRow base e size v n xs) (hg : (w.alloc o).grownBy w' v.ownBlock) (hT : e ≠ T) : w'.heap[b]? = some (.cells cs T fr) :=
  (hg.block b (by have := row_lt h; simp; omega) (fun e' => row_ne h ho hT e'.symm)).trans ((Below.heap_alloc _ _ _ (row_lt h)).trans h)
theorem drew_below {B : Nat} {w w' : World} (h : Below B w.drew w') : Below B w w' := ⟨h.os, h.tape, h.output, h.size, h.block⟩
theorem Bys.drew {w : World} {B n : Nat} {A : Option Addr} {l : Bytes} (h : Bys w B A n l) : Bys w.drew B A n l := h.later (Nat.le_refl _) ⟨rfl, rfl, rfl, Nat.le_refl _, fun _ _ => rfl⟩
/-- A step of a region that draws its order, by a law at 'Oper.wp'. -/
theorem step_lift {P : Program} {ops : Array Oper} {o : Oper} {a : Act} {w : World} {Q : Exit → Act → World → Prop} {K : Act → World → Prop} {Y : Prop} (hw : Region.wanted o (yielded ops a.tmps) = true) (h : o.wp P a w K Q) : if Region.wanted o (yielded ops a.tmps) = true then o.wp P a w K Q else Y := by
  rw [if_pos hw]
  exact h

set_option maxRecDepth 100000 in
set_option maxHeartbeats 4000000 in
theorem scan_any (A : Option Addr) (n c : Nat) (d : Bytes) (w : World) (h : Bys w w.heap.size A n d) (hn : n ≤ 100000000000) (hc : n ≤ c) (hc63 : c ≤ 9223372036854775807) :
    Calls Try.prog 25 #[.slice A n c] w fun e w' => ∃ A' c' vs, e = .returned (.tuple #[.slice A' (scan d).length c', .int .i64 ((sizes (scan d) : Nat) : Int)]) ∧ w'.ownsRow w.heap.size 25 1 (.slice A' (scan d).length c') (scan d).length vs ∧ OwnTexts w' w.heap.size vs (scan d) ∧ Below w.heap.size w w' := by
  have hib := items_bys (c := c) h
  have hsh := scan_short d
  refine (callsIn_wide (n := 8)).1 ?_
  refine callsIn_of_wp_marks Try.func25 rfl trivial ?_ rfl
  simp only [Try.ntmps25, List.size_toArray, List.length_cons, List.length_nil, Nat.reduceAdd, Nat.reduceSub, Array.replicate_succ, Array.replicate_zero, List.push_toArray, List.append_toArray, List.nil_append, List.cons_append]
  gi_wp2_with fail
  refine ⟨trivial, ?_⟩
  refine (callsIn_wide.2 (records_any A n c _)).mono ?_
  rintro e w1 ⟨rfl, rfl⟩
  gi_wp2_with fail
  obtain ⟨wE, hE⟩ : ∃ wE, (w.alloc (.cells #[.slice none 0 0] 23)).alloc (.cells #[.int .i64 0] 3) = wE := ⟨_, rfl⟩
  have hsE : wE.heap.size = w.heap.size + 2 := by rw [← hE]; simp
  have hbE : Below w.heap.size w wE := by rw [← hE]; exact ((Below.refl _ w).alloc (Nat.le_refl _) _).alloc (by simp) _
  have hxo : wE.heap[w.heap.size]? = some (.cells #[.slice none 0 0] 23 (0, 0)) := by
    rw [← hE]; exact (Below.heap_alloc _ _ _ (by simp)).trans (World.alloc_heap_new w _)
  have hxe : wE.heap[w.heap.size + 1]? = some (.cells #[.int .i64 0] 3 (0, 0)) := by
    rw [← hE]; exact heap_at (by simp)
  rw [hE]
  clear hE
  have hI0 : Scanned w [] (wE.alloc (.cells #[.slice A n c] 25)) :=
    ⟨hbE.alloc (by omega) _, none, 0, [], (Below.heap_alloc _ _ _ (by omega)).trans hxo, (Below.heap_alloc _ _ _ (by omega)).trans hxe, World.ownsRow_nil _ _ _ _, trivial⟩
  have hsW : (wE.alloc (.cells #[.slice A n c] 25)).heap.size = w.heap.size + 3 := by simp [hsE]
  have hcell : (wE.alloc (.cells #[.slice A n c] 25)).cell? ⟨w.heap.size + 1 + 1, 0, none⟩ = some (.slice A n c) := cell_of_row _ _ 0 _ _ _ (heap_at (by omega))
  have hdW : Bys (wE.alloc (.cells #[.slice A n c] 25)) w.heap.size A n d := h.later (Nat.le_refl _) (hbE.alloc (by omega) _)
  obtain ⟨W0, hW0⟩ : ∃ W0, wE.alloc (.cells #[.slice A n c] 25) = W0 := ⟨_, rfl⟩
  rw [hW0] at hI0 hsW hcell hdW ⊢
  clear hW0 hxo hxe hbE
  refine wpIn_rangeT rfl (by omega) (gf := 44) (lb := #[.pointer (some ⟨w.heap.size + 1 + 1, 0, none⟩)]) rfl trivial (enters_of Try.func44 (by kernel_rfl) rfl)
    (records_iter 7 (by omega) w.heap.size (w.heap.size + 1 + 1) A n c d W0 (by omega) (by omega) hcell hdW hn hc hc63) Kp.trans ?hKb (Below.refl _ _) (fun _ => rfl) (Scanned w) (scanned_abides w (by omega)) hI0
    (fun x => { tmps := #[.slice A n c, undef, .slice none 0 0, .int .i64 0, .pointer (some ⟨w.heap.size, 0, none⟩), .pointer (some ⟨w.heap.size + 1, 0, none⟩), .slice x.A x.p.length x.c, .int .i64 x.nxt, .slice A n c, .func (.func 44) #[] #[.pointer (some ⟨w.heap.size + 1 + 1, 0, none⟩)], .slice x.A x.p.length x.c, .int .i64 x.nxt, undef, undef, undef, undef, undef, undef, undef, undef], defers := [] }) ?assign ?body ?done
  case hKb =>
    intro W l o o' hl ho hc'
    refine ⟨⟨rfl, rfl, rfl, by simp [World.putObj], fun k hk => World.putObj_heap_other (by omega)⟩, fun r cs fr hr => World.putObj_heap_other fun e => ?_⟩
    subst e
    rw [ho] at hr
    injection hr with hr
    subst hr
    simp [Obj.isCells] at hc'
  case assign =>
    intro l x W K hK
    dsimp only [Item.encs]
    gi_wp2
    exact hK
  case body =>
    rintro l pre x W hpre ⟨hbW, A', c', vs, h1, h2, h3, h4⟩
    have hx := hib x (hpre.subset (by simp))
    have hl1 := row_lt h1
    have hl2 := row_lt h2
    have hpl : pre.length ≤ 65536 := by
      have := hpre.length_le
      rw [items_length] at this
      simp at this
      omega
    have hxn : x.p.length ≤ 100000000000 := by
      obtain ⟨j, hj⟩ := List.mem_iff_getElem?.1 (hpre.subset (by simp : x ∈ pre ++ [x]))
      have := scan_room d (j + 1)
      have hd' := h.len
      have hjl := (List.getElem?_eq_some_iff.1 hj).1
      rw [items_length] at hjl
      have hg := items_get A c _ 0 _ _ (List.getElem?_eq_getElem hjl)
      rw [hg] at hj
      injection hj with hj
      have hsn := sizes_snoc _ _ _ (List.getElem?_eq_getElem hjl)
      rw [← hj]
      show ((scan d)[j]).length ≤ _
      omega
    have KC := Lib.hid (clone_byte x.A x.p.length x.c x.p W.drew ((hx.later (Nat.le_refl _) hbW).more hbW.size).drew hxn)
    have H3 := Lib.hid h3
    have HH := Lib.hid h1
    have HE := Lib.hid h2
    have HD := Lib.hid (⟨hbW, h4, hpre⟩ : Below w.heap.size w W ∧ OwnTexts W w.heap.size vs (pre.map Item.p) ∧ pre ++ [x] <+: items A c 0 (scan d))
    have c0 : W.cell? ⟨w.heap.size, 0, none⟩ = some (.slice A' pre.length c') := cell_of_row _ _ 0 _ _ _ h1
    clear hib hx h1 h2 h3 h4 hbW hpre hcell hdW hI0
    gi_wp2_with fail
    refine wpIn_region_held (S := fun _ => True) (Or.inr ⟨_, rfl⟩) (by kernel_rfl) (by kernel_rfl) trivial (fun _ => ?_)
    refine wpAnyH_take (i := 1) (oi := ⟨some 13, _, _, _, _, _⟩) (v := ?_) rfl (by kernel_rfl) (by kernel_rfl) (by kernel_rfl) (fun _ _ _ h => h) (Or.inl ⟨by rfl, ?_⟩) trivial ?_
    rotate_left
    · (intro _ _; go_simp; try (with_reducible rfl))
    try simp only [Act.put, List.setIfInBounds_toArray, List.set_cons_zero, List.set_cons_succ]
    refine wpAnyH_take (i := 5) (oi := ⟨some 17, _, _, _, _, _⟩) (v := ?_) rfl (by kernel_rfl) (by kernel_rfl) (by kernel_rfl) (fun _ _ _ h => h) (Or.inl ⟨by rfl, ?_⟩) trivial ?_
    rotate_left
    · (intro _ _; go_simp; try (with_reducible rfl))
    try simp only [Act.put, List.setIfInBounds_toArray, List.set_cons_zero, List.set_cons_succ]
    refine wpAnyH_ready (rs := [0, 2]) (by kernel_rfl) (by simp) ?_
    refine AllReadyH.cons rfl (fun K hK => ?_) (AllReadyH.cons rfl (fun K hK => ?_) AllReadyH.nil)
    · go_simp
      refine hK.out _ _ trivial (fun _ => ?_)
      clear hK K
      try simp only [Act.put, List.setIfInBounds_toArray, List.set_cons_zero, List.set_cons_succ]
      refine wpAnyH_ready (rs := [2]) (by kernel_rfl) (by simp) ?_
      refine AllReadyH.cons rfl (fun K hK => ?_) AllReadyH.nil
      go_simp
      go_at_call 29
      refine KC.out.mono ?_
      rintro e w1 ⟨A1, c1, rfl, ho1, hb1⟩
      have hb2 := drew_below hb1
      have hx1 : w1.heap[w.heap.size]? = _ := (hb2.block w.heap.size hl1).trans HH.out
      have hx2 : w1.heap[w.heap.size + 1]? = _ := (hb2.block (w.heap.size + 1) hl2).trans HE.out
      have c1' := cell_of_row _ _ 0 _ _ _ hx1
      have hw1 := own_kept H3.out hb2 (Nat.le_refl _)
      have hz1 := HD.out.1.size
      have hz2 := hb2.size
      have ne1 : ¬ w.heap.size = w1.heap.size := (by omega)
      have lt1 : w.heap.size < w1.heap.size := (by omega)
      refine hK.out _ _ trivial (fun _ => ?_)
      clear hK K
      try simp only [Act.put, List.setIfInBounds_toArray, List.set_cons_zero, List.set_cons_succ]
      refine wpAnyH_ready (rs := [3]) (by kernel_rfl) (by simp) ?_
      refine AllReadyH.cons rfl (fun K hK => ?_) AllReadyH.nil
      go_simp
      refine hK.out _ _ trivial (fun _ => ?_)
      clear hK K
      try simp only [Act.put, List.setIfInBounds_toArray, List.set_cons_zero, List.set_cons_succ]
      refine wpAnyH_ready (rs := [4]) (by kernel_rfl) (by simp) ?_
      refine AllReadyH.cons rfl (fun K hK => ?_) AllReadyH.nil
      refine step_lift (by rfl) ?_
      refine elemText.wp_append (.tmp 12) (.tmp 15) rfl rfl (hw1.alloc _) rfl (reads_block (b := w1.heap.size) (n := 1) (B := w1.heap.size + 1) (xs := [.slice A1 x.p.length c1]) (by omega) (heap_at rfl) rfl rfl) (by simp [Value.oneCell']) (by unfold maxLen; omega) (by omega) (by simp; omega) ?_
      intro v' w2 ho2 hg hat
      obtain ⟨A2, c2, hv2, _⟩ := own_shape ho2
      subst hv2
      change (World.alloc w1 _).grownBy w2 (Value.slice A' pre.length c').ownBlock at hg
      have hy1 := row_kept hx1 hw1 hg (by decide)
      have hy2 := row_kept hx2 hw1 hg (by decide)
      have e1 := cell_of_row _ _ 0 _ _ _ hy1
      have e2 := cell_of_row _ _ 0 _ _ _ hy2
      have f1 := frozen_of_row _ _ 0 _ _ hy1
      have f2 := frozen_of_row _ _ 0 _ _ hy2
      have l1 := row_lt hy1
      have l2 := row_lt hy2
      refine hK.out _ _ trivial (fun _ => ?_)
      clear hK K
      try simp only [Act.put, List.setIfInBounds_toArray, List.set_cons_zero, List.set_cons_succ]
      refine wpAnyH_ready (rs := [6]) (by kernel_rfl) (by simp) ?_
      refine AllReadyH.cons rfl (fun K hK => ?_) AllReadyH.nil
      go_simp
      refine hK.out _ _ trivial (fun _ => ?_)
      clear hK K
      try simp only [Act.put, List.setIfInBounds_toArray, List.set_cons_zero, List.set_cons_succ]
      refine wpAnyH_ready (rs := [7]) (by kernel_rfl) (by simp) ?_
      refine AllReadyH.cons rfl (fun K hK => ?_) AllReadyH.nil
      go_simp
      refine hK.out _ _ trivial (fun _ => ?_)
      clear hK K
      try simp only [Act.put, List.setIfInBounds_toArray, List.set_cons_zero, List.set_cons_succ]
      refine wpAnyH_done (by kernel_rfl) (only_here ?_) _
      exact ⟨rfl, scan_round HD.out.1 HH.out HE.out H3.out HD.out.2.1 hb2 ho1 hg ho2⟩
    · go_simp
      go_at_call 29
      refine KC.out.mono ?_
      rintro e w1 ⟨A1, c1, rfl, ho1, hb1⟩
      have hb2 := drew_below hb1
      have hx1 : w1.heap[w.heap.size]? = _ := (hb2.block w.heap.size hl1).trans HH.out
      have hx2 : w1.heap[w.heap.size + 1]? = _ := (hb2.block (w.heap.size + 1) hl2).trans HE.out
      have c1' := cell_of_row _ _ 0 _ _ _ hx1
      have hw1 := own_kept H3.out hb2 (Nat.le_refl _)
      have hz1 := HD.out.1.size
      have hz2 := hb2.size
      have ne1 : ¬ w.heap.size = w1.heap.size := (by omega)
      have lt1 : w.heap.size < w1.heap.size := (by omega)
      refine hK.out _ _ trivial (fun _ => ?_)
      clear hK K
      try simp only [Act.put, List.setIfInBounds_toArray, List.set_cons_zero, List.set_cons_succ]
      refine wpAnyH_ready (rs := [0, 3]) (by kernel_rfl) (by simp) ?_
      refine AllReadyH.cons rfl (fun K hK => ?_) (AllReadyH.cons rfl (fun K hK => ?_) AllReadyH.nil)
      · go_simp
        refine hK.out _ _ trivial (fun _ => ?_)
        clear hK K
        try simp only [Act.put, List.setIfInBounds_toArray, List.set_cons_zero, List.set_cons_succ]
        refine wpAnyH_ready (rs := [3]) (by kernel_rfl) (by simp) ?_
        refine AllReadyH.cons rfl (fun K hK => ?_) AllReadyH.nil
        go_simp
        refine hK.out _ _ trivial (fun _ => ?_)
        clear hK K
        try simp only [Act.put, List.setIfInBounds_toArray, List.set_cons_zero, List.set_cons_succ]
        refine wpAnyH_ready (rs := [4]) (by kernel_rfl) (by simp) ?_
        refine AllReadyH.cons rfl (fun K hK => ?_) AllReadyH.nil
        refine step_lift (by rfl) ?_
        refine elemText.wp_append (.tmp 12) (.tmp 15) rfl rfl (hw1.alloc _) rfl (reads_block (b := w1.heap.size) (n := 1) (B := w1.heap.size + 1) (xs := [.slice A1 x.p.length c1]) (by omega) (heap_at rfl) rfl rfl) (by simp [Value.oneCell']) (by unfold maxLen; omega) (by omega) (by simp; omega) ?_
        intro v' w2 ho2 hg hat
        obtain ⟨A2, c2, hv2, _⟩ := own_shape ho2
        subst hv2
        change (World.alloc w1 _).grownBy w2 (Value.slice A' pre.length c').ownBlock at hg
        have hy1 := row_kept hx1 hw1 hg (by decide)
        have hy2 := row_kept hx2 hw1 hg (by decide)
        have e1 := cell_of_row _ _ 0 _ _ _ hy1
        have e2 := cell_of_row _ _ 0 _ _ _ hy2
        have f1 := frozen_of_row _ _ 0 _ _ hy1
        have f2 := frozen_of_row _ _ 0 _ _ hy2
        have l1 := row_lt hy1
        have l2 := row_lt hy2
        refine hK.out _ _ trivial (fun _ => ?_)
        clear hK K
        try simp only [Act.put, List.setIfInBounds_toArray, List.set_cons_zero, List.set_cons_succ]
        refine wpAnyH_ready (rs := [6]) (by kernel_rfl) (by simp) ?_
        refine AllReadyH.cons rfl (fun K hK => ?_) AllReadyH.nil
        go_simp
        refine hK.out _ _ trivial (fun _ => ?_)
        clear hK K
        try simp only [Act.put, List.setIfInBounds_toArray, List.set_cons_zero, List.set_cons_succ]
        refine wpAnyH_ready (rs := [7]) (by kernel_rfl) (by simp) ?_
        refine AllReadyH.cons rfl (fun K hK => ?_) AllReadyH.nil
        go_simp
        refine hK.out _ _ trivial (fun _ => ?_)
        clear hK K
        try simp only [Act.put, List.setIfInBounds_toArray, List.set_cons_zero, List.set_cons_succ]
        refine wpAnyH_done (by kernel_rfl) (only_here ?_) _
        exact ⟨rfl, scan_round HD.out.1 HH.out HE.out H3.out HD.out.2.1 hb2 ho1 hg ho2⟩
      · go_simp
        refine hK.out _ _ trivial (fun _ => ?_)
        clear hK K
        try simp only [Act.put, List.setIfInBounds_toArray, List.set_cons_zero, List.set_cons_succ]
        refine wpAnyH_ready (rs := [0]) (by kernel_rfl) (by simp) ?_
        refine AllReadyH.cons rfl (fun K hK => ?_) AllReadyH.nil
        go_simp
        refine hK.out _ _ trivial (fun _ => ?_)
        clear hK K
        try simp only [Act.put, List.setIfInBounds_toArray, List.set_cons_zero, List.set_cons_succ]
        refine wpAnyH_ready (rs := [4]) (by kernel_rfl) (by simp) ?_
        refine AllReadyH.cons rfl (fun K hK => ?_) AllReadyH.nil
        refine step_lift (by rfl) ?_
        refine elemText.wp_append (.tmp 12) (.tmp 15) rfl rfl (hw1.alloc _) rfl (reads_block (b := w1.heap.size) (n := 1) (B := w1.heap.size + 1) (xs := [.slice A1 x.p.length c1]) (by omega) (heap_at rfl) rfl rfl) (by simp [Value.oneCell']) (by unfold maxLen; omega) (by omega) (by simp; omega) ?_
        intro v' w2 ho2 hg hat
        obtain ⟨A2, c2, hv2, _⟩ := own_shape ho2
        subst hv2
        change (World.alloc w1 _).grownBy w2 (Value.slice A' pre.length c').ownBlock at hg
        have hy1 := row_kept hx1 hw1 hg (by decide)
        have hy2 := row_kept hx2 hw1 hg (by decide)
        have e1 := cell_of_row _ _ 0 _ _ _ hy1
        have e2 := cell_of_row _ _ 0 _ _ _ hy2
        have f1 := frozen_of_row _ _ 0 _ _ hy1
        have f2 := frozen_of_row _ _ 0 _ _ hy2
        have l1 := row_lt hy1
        have l2 := row_lt hy2
        refine hK.out _ _ trivial (fun _ => ?_)
        clear hK K
        try simp only [Act.put, List.setIfInBounds_toArray, List.set_cons_zero, List.set_cons_succ]
        refine wpAnyH_ready (rs := [6]) (by kernel_rfl) (by simp) ?_
        refine AllReadyH.cons rfl (fun K hK => ?_) AllReadyH.nil
        go_simp
        refine hK.out _ _ trivial (fun _ => ?_)
        clear hK K
        try simp only [Act.put, List.setIfInBounds_toArray, List.set_cons_zero, List.set_cons_succ]
        refine wpAnyH_ready (rs := [7]) (by kernel_rfl) (by simp) ?_
        refine AllReadyH.cons rfl (fun K hK => ?_) AllReadyH.nil
        go_simp
        refine hK.out _ _ trivial (fun _ => ?_)
        clear hK K
        try simp only [Act.put, List.setIfInBounds_toArray, List.set_cons_zero, List.set_cons_succ]
        refine wpAnyH_done (by kernel_rfl) (only_here ?_) _
        exact ⟨rfl, scan_round HD.out.1 HH.out HE.out H3.out HD.out.2.1 hb2 ho1 hg ho2⟩
  case done =>
    rintro D W hD ⟨hbW, A', c', vs, h1, h2, h3, h4⟩ hK
    rw [lastEnd_all] at h2
    rw [items_length] at h1 h3
    rw [items_texts] at h4
    have c1 : W.cell? ⟨w.heap.size, 0, none⟩ = some (.slice A' (scan d).length c') := cell_of_row _ _ 0 _ _ _ h1
    have c2 : W.cell? ⟨w.heap.size + 1, 0, none⟩ = some (.int .i64 ((sizes (scan d) : Nat) : Int)) := cell_of_row _ _ 0 _ _ _ h2
    gi_wp2_with fail
    refine wpIn_region_held (S := fun W' => W'.cell? ⟨w.heap.size, 0, none⟩ = some (.slice A' (scan d).length c') ∧ W'.cell? ⟨w.heap.size + 1, 0, none⟩ = some (.int .i64 ((sizes (scan d) : Nat) : Int))) (Or.inl rfl) (by kernel_rfl) (by kernel_rfl) ⟨c1, c2⟩ (fun hS => ?_)
    refine wpAnyH_take (i := 0) (oi := ⟨some 18, _, _, _, _, _⟩) (v := ?_) rfl (by kernel_rfl) (by kernel_rfl) (by kernel_rfl) (fun _ _ _ h => h) (Or.inl ⟨by rfl, ?_⟩) hS ?_
    rotate_left
    · (intro _ hW; obtain ⟨hW1, hW2⟩ := hW; go_simp; try (with_reducible rfl))
    try simp only [Act.put, List.setIfInBounds_toArray, List.set_cons_zero, List.set_cons_succ]
    refine wpAnyH_take (i := 1) (oi := ⟨some 19, _, _, _, _, _⟩) (v := ?_) rfl (by kernel_rfl) (by kernel_rfl) (by kernel_rfl) (fun _ _ _ h => h) (Or.inl ⟨by rfl, ?_⟩) hS ?_
    rotate_left
    · (intro _ hW; obtain ⟨hW1, hW2⟩ := hW; go_simp; try (with_reducible rfl))
    try simp only [Act.put, List.setIfInBounds_toArray, List.set_cons_zero, List.set_cons_succ]
    refine wpAnyH_take (i := 2) (oi := ⟨some 2, _, _, _, _, _⟩) (v := ?_) rfl (by kernel_rfl) (by kernel_rfl) (by kernel_rfl) (fun _ _ _ h => h) (Or.inl ⟨by rfl, ?_⟩) hS ?_
    rotate_left
    · (intro _ hW; obtain ⟨hW1, hW2⟩ := hW; go_simp; try (with_reducible rfl))
    try simp only [Act.put, List.setIfInBounds_toArray, List.set_cons_zero, List.set_cons_succ]
    refine wpAnyH_take (i := 3) (oi := ⟨some 3, _, _, _, _, _⟩) (v := ?_) rfl (by kernel_rfl) (by kernel_rfl) (by kernel_rfl) (fun _ _ _ h => h) (Or.inl ⟨by rfl, ?_⟩) hS ?_
    rotate_left
    · (intro _ hW; obtain ⟨hW1, hW2⟩ := hW; go_simp; try (with_reducible rfl))
    try simp only [Act.put, List.setIfInBounds_toArray, List.set_cons_zero, List.set_cons_succ]
    refine wpAnyH_done (by kernel_rfl) (only_here ?_) _
    all_goals gi_wp2
    have hKd : W.drew.heap[D]? = some (.deferred (some [])) := hK
    have hbd : Below w.heap.size w W.drew := ⟨hbW.os, hbW.tape, hbW.output, hbW.size, hbW.block⟩
    have hdr : Below W.heap.size W W.drew := ⟨rfl, rfl, rfl, Nat.le_refl _, fun _ _ => rfl⟩
    have m : ∀ (e : TypeId) (v : Value) (n : Nat) (xs : List Value), W.ownsRow w.heap.size e 1 v n xs → (W.drew.putObj D (.deferred none)).ownsRow w.heap.size e 1 v n xs := fun e v n xs ho => ownsRow_putObj (own_kept ho hdr (Nat.le_refl _)) _ hKd rfl
    refine ⟨by simp, .inl ⟨_, _, rfl, run_takeDeferred hKd, ?_⟩⟩
    refine ⟨_, results_tmp2 rfl _ _ _, A', c', vs, rfl, m _ _ _ _ h3, h4.map (m 5), ?_⟩
    exact ⟨hbd.os, hbd.tape, hbd.output, by have := hbd.size; simpa [World.putObj] using this, fun k hk => (World.putObj_heap_other (by omega)).trans (hbd.block k hk)⟩
end Go.Proofs.Ytbkicepkkcambaa
