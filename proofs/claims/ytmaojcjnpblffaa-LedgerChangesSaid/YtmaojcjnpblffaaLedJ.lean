/- Deleting in place; At. -/
import Derived.Test.YtmaojcjnpblffaaLedI
namespace Go.Proofs.Ytmaojcjnpblffaa
open Go.RowKit BigFrame

theorem ElemT.list_clear {P : Program} {t e : TypeId} {z : Value} {size bytes : Nat} (E : ElemT P t e z size bytes) {ops : Array Oper} {rest : List Oper} {op : Oper} {a : Act} {Q : Exit → Act → World → Prop} (hgd : op.guard = none) (hd : op.dst = none) (x : Operand)
    (ho : op.op = .call { callee := .builtin .clear, args := #[x], argTypes := #[t] }) {w : World} {g : Nat} {cur : Array Value} (hh : w.heap[g]? = some (.cells cur e (0, 0))) (hz : ∀ w, (zeroValue e).run P w = .ok z w)
    (h1 : ∀ u ∈ z.cells.toList, u.oneCell' = true) (o k c : Nat) (hx : a.eval x = .slice (some ⟨g, o, none⟩) k c) (hk : 0 < k) (hfit : o + k * size ≤ cur.size)
    (h : ∀ cur' : Array Value, cur'.size = cur.size → cur'.toList.take o = cur.toList.take o → wpList P ops Q rest a (w.setRow g cur')) : wpList P ops Q (op :: rest) a w :=
  wpList_plain hgd fun _ hK => by
    obtain ⟨cur', hrun, h2, h3⟩ := E.run_clear op.type hh hz h1 o k c hk hfit
    unfold Oper.wp execOp
    simp only [ho, resolve, invoke, builtin, Sem.run_bind, Sem.run_pure, Result.andThen_ok, List.map_toArray, List.map_cons, List.map_nil, hx, hrun]
    have := hK _ _ (h cur' h2 h3)
    simpa [Oper.upon, hd, Act.put] using this

theorem paids_at {l : List Paid} {j : Nat} {x : Paid} (h : l[j]? = some x) : (paids l)[j * 4]? = some (.int .i64 x.day) ∧ (paids l)[j * 4 + 1]? = some (.int .i64 x.month) ∧ (paids l)[j * 4 + 2]? = some (.int .u8 x.kind) ∧ (paids l)[j * 4 + 3]? = some (.int .i64 x.amount) := by
  obtain ⟨hj, rfl⟩ := List.getElem?_eq_some_iff.1 h
  exact paids_get l j hj
theorem paids_set : ∀ (l : List Paid) (i : Nat) (x : Paid), ((((paids l).set (i * 4) (.int .i64 x.day)).set (i * 4 + 1) (.int .i64 x.month)).set (i * 4 + 2) (.int .u8 x.kind)).set (i * 4 + 3) (.int .i64 x.amount) = paids (l.set i x)
  | [], i, x => by simp [paids]
  | p :: l, 0, x => by simp [paids]
  | p :: l, i + 1, x => by
    have := paids_set l i x
    rw [show (i + 1) * 4 = i * 4 + 1 + 1 + 1 + 1 by omega, show i * 4 + 1 + 1 + 1 + 1 + 1 = (i * 4 + 1) + 1 + 1 + 1 + 1 by omega, show i * 4 + 1 + 1 + 1 + 1 + 2 = (i * 4 + 2) + 1 + 1 + 1 + 1 by omega, show i * 4 + 1 + 1 + 1 + 1 + 3 = (i * 4 + 3) + 1 + 1 + 1 + 1 by omega]
    simp only [paids, List.set_cons_succ, this]

/-- The row after j elements have been looked at: i are kept so far. -/
structure Deleted (p : Paid → Bool) (l R : List Paid) (i j : Nat) : Prop where
  len : R.length = l.length
  le : i ≤ j
  head : R.take i = (l.take j).filter fun x => !p x
  tail : R.drop j = l.drop j
theorem Deleted.keep {p : Paid → Bool} {l R : List Paid} {i j : Nat} {x : Paid} (h : Deleted p l R i j) (hx : l[j]? = some x) (hp : p x = false) : Deleted p l (R.set i x) (i + 1) (j + 1) := by
  have hj := (List.getElem?_eq_some_iff.1 hx).1
  refine ⟨by simp [h.len], by have := h.le; omega, ?_, ?_⟩
  · rw [List.take_add_one, List.take_set_of_le (Nat.le_refl i), h.head, List.take_add_one, hx, List.filter_append]
    have hi : i < R.length := by have := h.le; have := h.len; omega
    simp [hi, hp]
  · rw [List.drop_set_of_lt (by have := h.le; omega)]
    have := congrArg (List.drop 1) h.tail
    simpa [List.drop_drop] using this
theorem Deleted.drop_ {p : Paid → Bool} {l R : List Paid} {i j : Nat} {x : Paid} (h : Deleted p l R i j) (hx : l[j]? = some x) (hp : p x = true) : Deleted p l R i (j + 1) := by
  refine ⟨h.len, by have := h.le; omega, ?_, ?_⟩
  · rw [h.head, List.take_add_one, hx, List.filter_append]
    simp [hp]
  · have := congrArg (List.drop 1) h.tail
    simpa [List.drop_drop] using this
theorem Deleted.at_ {p : Paid → Bool} {l R : List Paid} {i j : Nat} {x : Paid} (h : Deleted p l R i j) (hx : l[j]? = some x) : R[j]? = some x := by
  have := congrArg (fun l => l[0]?) h.tail
  simpa [List.getElem?_drop, hx] using this
theorem fidx_take {p : Paid → Bool} {l : List Paid} {i : Nat} (h : fidx p l = i) : i < l.length ∧ ∃ x, l[i]? = some x ∧ p x = true ∧ (l.take i).any p = false := by
  unfold fidx at h
  cases hf : l.findIdx? p with
  | none => rw [hf] at h; simp at h
  | some k =>
    rw [hf] at h
    obtain rfl : k = i := by exact Int.ofNat.inj h
    obtain ⟨hk, hpk, hall⟩ := List.findIdx?_eq_some_iff_getElem.1 hf
    refine ⟨hk, l[k], List.getElem?_eq_getElem hk, hpk, ?_⟩
    rw [List.any_eq_false]
    intro x hx
    obtain ⟨j, hj, rfl⟩ := List.mem_take_iff_getElem.1 hx
    simpa using hall j (by omega)
theorem Deleted.start {p : Paid → Bool} {l : List Paid} {i : Nat} (h : fidx p l = i) : Deleted p l l i (i + 1) := by
  obtain ⟨hi, x, hx, hp, hn⟩ := fidx_take h
  refine ⟨rfl, by omega, ?_, rfl⟩
  rw [List.take_add_one, hx, List.filter_append]
  rw [List.any_eq_false] at hn
  have : (l.take i).filter (fun x => !p x) = l.take i := List.filter_eq_self.2 fun y hy => by have := hn y hy; simpa using this
  rw [this]
  simp [hp]

theorem own_cells {w : World} {base n g c : Nat} {R : List Paid} {e : TypeId} (h : w.ownsRow base e 4 (.slice (some ⟨g, 0, none⟩) n c) n (paids R)) {j : Nat} {x : Paid} (hx : R[j]? = some x) :
    w.cell? ⟨g, j * 4, none⟩ = some (.int .i64 x.day) ∧ w.cell? ⟨g, j * 4 + 1, none⟩ = some (.int .i64 x.month) ∧ w.cell? ⟨g, j * 4 + 2, none⟩ = some (.int .u8 x.kind) ∧ w.cell? ⟨g, j * 4 + 3, none⟩ = some (.int .i64 x.amount) := by
  obtain ⟨a, b, c', d⟩ := paids_at hx
  have hj := (List.getElem?_eq_some_iff.1 hx).1
  have hl : R.length = n := by have := h.1; rw [paids_length] at this; omega
  exact ⟨(h.cellAt _ (by omega)).trans a, (h.cellAt _ (by omega)).trans b, (h.cellAt _ (by omega)).trans c', (h.cellAt _ (by omega)).trans d⟩
theorem own_put {w : World} {base n g c : Nat} {R : List Paid} {e : TypeId} (h : w.ownsRow base e 4 (.slice (some ⟨g, 0, none⟩) n c) n (paids R)) (i : Nat) (x : Paid) :
    ((((w.setCell ⟨g, i * 4, none⟩ (.int .i64 x.day)).setCell ⟨g, i * 4 + 1, none⟩ (.int .i64 x.month)).setCell ⟨g, i * 4 + 2, none⟩ (.int .u8 x.kind)).setCell ⟨g, i * 4 + 3, none⟩ (.int .i64 x.amount)).ownsRow base e 4 (.slice (some ⟨g, 0, none⟩) n c) n (paids (R.set i x)) ∧
    w.grownBy ((((w.setCell ⟨g, i * 4, none⟩ (.int .i64 x.day)).setCell ⟨g, i * 4 + 1, none⟩ (.int .i64 x.month)).setCell ⟨g, i * 4 + 2, none⟩ (.int .u8 x.kind)).setCell ⟨g, i * 4 + 3, none⟩ (.int .i64 x.amount)) (some g) := by
  have h4 := ((((h.stored (i * 4) (.int .i64 x.day)).1.stored (i * 4 + 1) (.int .i64 x.month)).1.stored (i * 4 + 2) (.int .u8 x.kind)).1.stored (i * 4 + 3) (.int .i64 x.amount)).1
  rw [paids_set] at h4
  exact ⟨h4, grown_trans (grown_trans (grown_trans (grown_set w ⟨g, i * 4, none⟩ _) (grown_set _ ⟨g, i * 4 + 1, none⟩ _)) (grown_set _ ⟨g, i * 4 + 2, none⟩ _)) (grown_set _ ⟨g, i * 4 + 3, none⟩ _)⟩

theorem own_le {w : World} {base : Nat} {e : TypeId} {size n c : Nat} {A : Option Addr} {xs : List Value} (h : w.ownsRow base e size (.slice A n c) n xs) : n ≤ c := by
  obtain ⟨A', c', e, h1, _⟩ := own_shape h
  cases e
  exact h1
/-- The row's head alone, after its tail was overwritten. -/
theorem own_head {w : World} {base n g c i : Nat} {R : List Paid} {e : TypeId} (h : w.ownsRow base e 4 (.slice (some ⟨g, 0, none⟩) n c) n (paids R)) (hi : i ≤ n) : ∃ cur : Array Value, w.heap[g]? = some (.cells cur e (0, 0)) ∧ cur.size = c * 4 ∧ n ≤ c ∧
    ∀ cur' : Array Value, cur'.size = cur.size → cur'.toList.take (i * 4) = cur.toList.take (i * 4) → (w.setRow g cur').ownsRow base e 4 (.slice (some ⟨g, 0, none⟩) i c) i (paids (R.take i)) ∧ w.grownBy (w.setRow g cur') (some g) := by
  have hl : R.length = n := by have := h.1; rw [paids_length] at this; omega
  rcases h.2 with ⟨h', _⟩ | ⟨g', cap, cur, h', hb, hh, hnc, hcm, hcs, htake⟩
  · simp at h'
  · simp only [Value.slice.injEq, Option.some.injEq, Addr.mk.injEq, and_true, true_and] at h'
    obtain ⟨rfl, rfl⟩ := h'
    refine ⟨cur, hh, hcs, hnc, fun cur' hs ht => ⟨⟨by rw [paids_length, List.length_take]; omega, .inr ⟨g, c, cur', rfl, hb, setRow_heap w g cur _ e _ hh, by omega, hcm, by omega, ?_⟩⟩, ⟨rfl, rfl, rfl, by simp, fun k _ hk => setRow_other w g k _ (fun e => hk (by rw [e]))⟩⟩⟩
    rw [ht, ← paids_take, ← htake, List.take_take]
    congr 1
    omega

set_option maxRecDepth 100000 in
set_option maxHeartbeats 2000000 in
theorem delete_paid (f : FuncId) (caps : Array Value) (A : Option Addr) (n c : Nat) (l : List Paid) (p : Paid → Bool) (base : Nat) (w : World) (he : Enters_ Try.prog f) (hown : w.ownsRow base 47 4 (.slice A n c) n (paids l)) (hn : n ≤ 1000000)
    (hf : ∀ x W, x ∈ l → w.grownBy W (Value.slice A n c).ownBlock → Calls Try.prog f (#[x.val] ++ caps) W fun e W' => e = .returned (.bool (p x)) ∧ Below W.heap.size W W') :
    Calls Try.prog 43 #[.slice A n c, .func (.func f) #[] caps] w fun e w' =>
      e = .returned (.slice A (l.filter fun x => !p x).length c) ∧ w'.ownsRow base 47 4 (.slice A (l.filter fun x => !p x).length c) (l.filter fun x => !p x).length (paids (l.filter fun x => !p x)) ∧ w.grownBy w' (Value.slice A n c).ownBlock := by
  have hlen : l.length = n := by have := hown.1; rw [paids_length] at this; omega
  have KI := Lib.hid (idx_paid f caps A n c l p w he ⟨hlen, Reads.of_own hown⟩ hn fun x W hx hW => hf x W hx (grown_of_below hW))
  cases hfi : l.any p
  · have hr : fidx p l = -1 := fidx_none hfi
    have hfil : (l.filter fun x => !p x) = l := List.filter_eq_self.2 fun y hy => by have := (List.any_eq_false.1 hfi) y hy; simpa using this
    rw [hr] at KI
    rw [hfil, hlen]
    have HO := Lib.hid hown
    clear hf he hfi hr hfil hlen hown
    go_enter Try.func43, Try.ntmps43
    go_wp2_with fail
    refine KI.out.mono ?_
    rintro e w1 ⟨rfl, hb1⟩
    clear KI
    go_wp2
    go_ret
    exact ⟨rfl, own_kept HO.out hb1 (Nat.le_refl _), grown_of_below hb1⟩
  · obtain ⟨i0, hi0⟩ : ∃ i : Nat, fidx p l = i := by
      have := fidx_nonneg p l
      rw [hfi] at this
      exact ⟨(fidx p l).toNat, by have := of_decide_eq_true this; omega⟩
    obtain ⟨hi0l, _⟩ := fidx_take hi0
    obtain ⟨g, rfl, hg1, hg2⟩ := own_some hown (by omega)
    rw [hi0] at KI
    have hst := Lib.hid (Deleted.start hi0)
    have hne : ((i0 : Int) == -1) = false := by rw [beq_eq_false_iff_ne]; omega
    have HO := Lib.hid hown
    have hi0n : i0 < n := by omega
    have he' := he.out
    have HLEN := Lib.hid hlen
    have HF := Lib.hid hf
    clear hf he hfi hown hi0 hi0l hlen
    go_enter Try.func43, Try.ntmps43
    go_wp2_with fail
    refine KI.out.mono ?_
    rintro e w1 ⟨rfl, hb1⟩
    clear KI
    go_wp2_with fail
    go_loopw [5, 6] (fun vi vj wr => ∃ (i j : Nat) (R : List Paid), vi = .int .i64 i ∧ vj = .int .i64 j ∧ j ≤ n ∧ i < j ∧ Hid (Deleted p l R i j ∧ wr.ownsRow base 47 4 (.slice (some ⟨g, 0, none⟩) n c) n (paids R) ∧ w.grownBy wr (some g))) (fun _ vj _ => n - (intOf vj).toNat)
    case atStart => exact ⟨i0, i0 + 1, l, rfl, by go_num, by omega, by omega, hst.out, own_kept HO.out hb1 (Nat.le_refl _), grown_of_below hb1⟩
    case round =>
      obtain ⟨i, j, R, rfl, rfl, hj, hij, hD, hown, hgr⟩ := hrel
      have HD := Lib.hid hD
      have HW := Lib.hid hown
      have HG := Lib.hid hgr
      by_cases hlt : j < n
      · obtain ⟨x, hx⟩ : ∃ x, l[j]? = some x := ⟨l[j]'(by rw [HLEN.out]; exact hlt), List.getElem?_eq_getElem _⟩
        obtain ⟨c0, c1, c2, c3⟩ := own_cells hown (hD.at_ hx)
        have hsz : g < wr.heap.size := by have := hgr.size; omega
        have HC := fun W (hW : wr.grownBy W (some g)) => Lib.hid (HF.out x W (List.mem_of_getElem? hx) (grown_trans hgr hW))
        have HX := Lib.hid hx
        clear hD hown hgr hx hst HO hb1
        cases hp : p x
        · rw [hp] at HC
          have HP := Lib.hid hp
          clear hp
          go_wp2_with fail
          refine (HC _ (World.grownBy_alloc wr _ _)).out.mono ?_
          rintro e w2 ⟨rfl, hb2⟩
          have own2 := own_kept (HW.out.alloc _) hb2 (Nat.le_refl _)
          have G2 := Lib.hid (grown_trans HG.out (grown_trans (World.grownBy_alloc wr _ _) (grown_of_below hb2)))
          have hc2 := (bcell hb2).1
          have q0 : w2.cell? ⟨wr.heap.size, 0, none⟩ = some (.int .i64 x.day) := by rw [hc2 _ _ (by first | omega | (simp; done) | (simp; omega))]; simp [go_sem]
          have q1 : w2.cell? ⟨wr.heap.size, 1, none⟩ = some (.int .i64 x.month) := by rw [hc2 _ _ (by first | omega | (simp; done) | (simp; omega))]; simp [go_sem]
          have q2 : w2.cell? ⟨wr.heap.size, 2, none⟩ = some (.int .u8 x.kind) := by rw [hc2 _ _ (by first | omega | (simp; done) | (simp; omega))]; simp [go_sem]
          have q3 : w2.cell? ⟨wr.heap.size, 3, none⟩ = some (.int .i64 x.amount) := by rw [hc2 _ _ (by first | omega | (simp; done) | (simp; omega))]; simp [go_sem]
          have hRl : R.length = n := by rw [HD.out.len, HLEN.out]
          obtain ⟨y, hy⟩ : ∃ y, R[i]? = some y := ⟨R[i]'(by omega), List.getElem?_eq_getElem _⟩
          obtain ⟨d0, d1, d2, d3⟩ := own_cells own2 hy
          have f0 := own2.frozenAt (i * 4)
          have f1 := own2.frozenAt (i * 4 + 1)
          have f2 := own2.frozenAt (i * 4 + 2)
          have f3 := own2.frozenAt (i * 4 + 3)
          have O2 := Lib.hid own2
          have hne1 : ¬ g = wr.heap.size := by omega
          have hne2 : ¬ wr.heap.size = g := by omega
          have hin : i < n := by omega
          clear own2 hb2 hc2 hRl hy HC c0 c1 c2 c3
          go_wp2
          go_roundw
          case rel =>
            obtain ⟨o1, o2⟩ := own_put O2.out i x
            exact ⟨i + 1, j + 1, R.set i x, by go_num, by go_num, by omega, by omega, HD.out.keep HX.out HP.out, o1, grown_trans G2.out o2⟩
          case measure => simp [intOf]; omega
        · rw [hp] at HC
          have HP := Lib.hid hp
          clear hp
          go_wp2_with fail
          refine (HC _ (World.grownBy_alloc wr _ _)).out.mono ?_
          rintro e w2 ⟨rfl, hb2⟩
          have O2 := Lib.hid (own_kept (HW.out.alloc _) hb2 (Nat.le_refl _))
          have G2 := Lib.hid (grown_trans HG.out (grown_trans (World.grownBy_alloc wr _ _) (grown_of_below hb2)))
          clear hb2 HC c0 c1 c2 c3
          go_wp2
          go_roundw
          case rel => exact ⟨i, j + 1, R, rfl, by go_num, by omega, by omega, HD.out.drop_ HX.out HP.out, O2.out, G2.out⟩
          case measure => simp [intOf]; omega
      · have hjn : j = n := by omega
        subst hjn
        obtain ⟨cur, hh, hcs, hnc, hend⟩ := own_head HW.out (i := i) (by omega)
        have HE := Lib.hid hend
        have hci : ¬ c = i := by omega
        have hic : i ≤ c := by omega
        have hij' : i ≤ j := by omega
        clear hD hown hgr hst HO hb1 hend
        go_wp2_with ((with_reducible show wpList _ _ _ _ _ _); (refine elemPaid.list_clear rfl rfl (.tmp 38) rfl hh (fun _ => by kernel_rfl) (by intro u hu; simp [Value.cells] at hu; rcases hu with rfl | rfl | rfl | rfl <;> rfl) (i * 4) (j - i) (c - i) rfl (by omega) (by rw [hcs]; omega) ?_; intro cur' hs' ht'))
        go_ret
        obtain ⟨o1, o2⟩ := HE.out cur' hs' ht'
        have e1 : R.take i = l.filter fun x => !p x := by rw [HD.out.head, List.take_of_length_le (by rw [HLEN.out]; omega)]
        have e2 : (l.filter fun x => !p x).length = i := by rw [← e1, List.length_take, HD.out.len, HLEN.out]; omega
        rw [e2, ← e1]
        exact ⟨rfl, o1, grown_trans HG.out o2⟩

def atR (L : Led) (day : Int) : Led × Int := if validB L = false then (Led.zero, 2) else (⟨L.start, L.due, L.posts.filter fun x => !decide (day < x.day)⟩, 0)

set_option maxHeartbeats 400000 in
theorem day_call (d : Int) (b : Nat) (p : Paid) (w : World) (hm : w.cell? ⟨b, 0, none⟩ = some (.int .i64 d)) (hb : b < w.heap.size) :
    Calls Try.prog 44 #[p.val, .pointer (some ⟨b, 0, none⟩)] w fun e w' => e = .returned (.bool (decide (d < p.day))) ∧ Below w.heap.size w w' := by
  obtain ⟨day, month, kind, amount⟩ := p
  unfold Paid.val
  go_enter Try.func44, Try.ntmps44
  go_wp2
  go_ret
  exact ⟨rfl, by go_grown⟩

set_option maxRecDepth 100000 in
set_option maxHeartbeats 2000000 in
theorem at_any (A : Option Addr) (n c : Nat) (A' : Option Addr) (n' c' : Nat) (L : Led) (d : Int) (w : World) (h : LedIn w w.heap.size A n A' n' L) :
    Calls Try.prog 23 #[.agg #[.int .i64 L.start, .slice A n c, .slice A' n' c'], .int .i64 d] w (GivesLed w (atR L d)) := by
  have KV := fun W hW => Lib.hid (valid_any A n c A' n' c' L W (h.to (w' := W) hW))
  have e1 : Enters_ Try.prog 44 := enters_ Try.func44 (by kernel_rfl) rfl
  have vlen : validB L = true → L.due.length ≤ 1200 ∧ L.posts.length ≤ 4000 := fun hv => ⟨(valid_here hv).1.2.2, (valid_here hv).2.2.1⟩
  have hr : atR L d = if validB L = false then (Led.zero, 2) else (⟨L.start, L.due, L.posts.filter fun x => !decide (d < x.day)⟩, 0) := rfl
  generalize atR L d = r at *
  cases hv : validB L
  all_goals
    rw [hv] at hr
    simp only [if_true, Bool.true_eq_false, if_false] at hr
    subst hr
    go_enter Try.func23, Try.ntmps23
    go_wp2_with fail
    refine (KV _ (by go_grown)).out.mono ?_
    rintro e w1 ⟨rfl, hb1⟩
    have hB1 : Below w.heap.size w w1 := after (by go_grown) hb1
    have hz1 : w.heap.size + 2 < w1.heap.size := Nat.lt_of_lt_of_le (by first | omega | (simp; done) | (simp; omega)) hb1.size
    have hc1 := (bcell hb1).1
    have p0 : w1.cell? ⟨w.heap.size, 0, none⟩ = some (.int .i64 L.start) := by rw [hc1 _ _ (by first | omega | (simp; done) | (simp; omega))]; simp [go_sem]
    have p1 : w1.cell? ⟨w.heap.size, 1, none⟩ = some (.slice A n c) := by rw [hc1 _ _ (by first | omega | (simp; done) | (simp; omega))]; simp [go_sem]
    have p2 : w1.cell? ⟨w.heap.size, 2, none⟩ = some (.slice A' n' c') := by rw [hc1 _ _ (by first | omega | (simp; done) | (simp; omega))]; simp [go_sem]
    have pd : w1.cell? ⟨w.heap.size + 1, 0, none⟩ = some (.int .i64 d) := by rw [hc1 _ _ (by first | omega | (simp; done) | (simp; omega))]; simp [go_sem]
    have p3 : w1.heap[w.heap.size + 2]? = some (.cells #[.int .i64 0, .slice none 0 0, .slice none 0 0] 25 (0, 0)) := by
      rw [hb1.block _ (by first | omega | (simp; done) | (simp; omega))]
      have e : ((w.alloc (.cells #[.int .i64 L.start, .slice A n c, .slice A' n' c'] 25)).alloc (.cells #[.int .i64 d] 3)).heap.size = w.heap.size + 2 := by simp
      rw [← e]
      exact heap_alloc_new _ _
    clear KV hc1 hb1
  · have x0 : w1.cell? ⟨w.heap.size + 2, 0, none⟩ = some (.int .i64 0) := cell_of_row w1 _ 0 _ _ _ p3
    have x1 : w1.cell? ⟨w.heap.size + 2, 1, none⟩ = some (.slice none 0 0) := cell_of_row w1 _ 1 _ _ _ p3
    have x2 : w1.cell? ⟨w.heap.size + 2, 2, none⟩ = some (.slice none 0 0) := cell_of_row w1 _ 2 _ _ _ p3
    have y0 := frozen_of_row w1 _ 0 _ _ p3
    have y1 := frozen_of_row w1 _ 1 _ _ p3
    have y2 := frozen_of_row w1 _ 2 _ _ p3
    clear p3
    go_wp2
    refine bodyPost_ret (v := .tuple #[.agg #[.int .i64 0, .slice none 0 0, .slice none 0 0], .int .i64 2]) (by simp [results, Try.results23, go_sem, x0, x1, x2]) rfl (gives_zero 2 ?_)
    go_grown
  · have KO := fun W (hW : Below w.heap.size w W) => Lib.hid (own_any L.start A n c A' n' c' L.due L.posts W (h.to hW).due (h.to hW).posts (by rw [← h.due.len]; have := vlen hv; omega) (by rw [← h.posts.len]; have := vlen hv; omega))
    have hdl := Lib.hid h.due.len
    have hpl := Lib.hid h.posts.len
    have hn4 : n' ≤ 4000 := by rw [← h.posts.len]; exact (vlen hv).2
    have P3 := Lib.hid p3
    clear p3 h vlen
    go_wp2_with fail
    refine (KO _ hB1).out.mono ?_
    rintro e w3 ⟨A1, c1, A2, c2, rfl, hown1, hown2, hb3⟩
    have hB3 : Below w.heap.size w w3 := after hB1 hb3
    have hz3 : w.heap.size + 2 < w3.heap.size := Nat.lt_of_lt_of_le hz1 hb3.size
    have qd : w3.cell? ⟨w.heap.size + 1, 0, none⟩ = some (.int .i64 d) := ((bcell hb3).1 _ _ (by omega)).trans pd
    have P5 := Lib.hid ((hb3.block _ hz1).trans P3.out)
    have hs3 := hb3.size
    have k2 : ∀ k, (Value.slice A2 n' c2).ownBlock = some k → w1.heap.size ≤ k ∧ k < w3.heap.size := hown2.lt
    have KD := fun o => Lib.hid (delete_paid 44 #[.pointer (some ⟨w.heap.size + 1, 0, none⟩)] A2 n' c2 L.posts (fun x => decide (d < x.day)) w1.heap.size (w3.alloc o) e1 (hown2.alloc o) (by omega) (fun x W _ hW =>
      day_call d (w.heap.size + 1) x W (((grown_cell hW (b := w.heap.size + 1) (by simp; omega) (fun k hk => by have := k2 k hk; omega) 0).1.trans (World.cell?_alloc_lt w3 o _ (by dsimp only; omega))).trans qd) (by have := hW.size; simp at this; omega)))
    have K2 := Lib.hid k2
    clear KO p0 p1 p2 pd P3 k2 qd
    go_wp2_with fail
    refine (KD _).out.mono ?_
    rintro e w4 ⟨rfl, hown', hg⟩
    have ho := out_kept hg hown2
    have g4 := out_kept2 hg hown2 hz1 hz3 P5.out
    generalize hm : (L.posts.filter fun x => !decide (d < x.day)) = l' at *
    have q0 : w4.cell? ⟨w3.heap.size, 0, none⟩ = some (.int .i64 L.start) := cell_of_row _ _ 0 _ _ _ ho
    have q1 : w4.cell? ⟨w3.heap.size, 1, none⟩ = some (.slice A1 n c1) := cell_of_row _ _ 1 _ _ _ ho
    have q2 : w4.cell? ⟨w3.heap.size, 2, none⟩ = some (.slice A2 n' c2) := cell_of_row _ _ 2 _ _ _ ho
    have r0 := frozen_of_row _ _ 0 _ _ ho
    have r1 := frozen_of_row _ _ 1 _ _ ho
    have r2 := frozen_of_row _ _ 2 _ _ ho
    have x0 : w4.cell? ⟨w.heap.size + 2, 0, none⟩ = some (.int .i64 0) := cell_of_row w4 _ 0 _ _ _ g4
    have x1 : w4.cell? ⟨w.heap.size + 2, 1, none⟩ = some (.slice none 0 0) := cell_of_row w4 _ 1 _ _ _ g4
    have x2 : w4.cell? ⟨w.heap.size + 2, 2, none⟩ = some (.slice none 0 0) := cell_of_row w4 _ 2 _ _ _ g4
    have y0 := frozen_of_row w4 _ 0 _ _ g4
    have y1 := frozen_of_row w4 _ 1 _ _ g4
    have y2 := frozen_of_row w4 _ 2 _ _ g4
    have ne1 : ¬ w.heap.size + 2 = w3.heap.size := by omega
    have ne2 : ¬ w3.heap.size = w.heap.size + 2 := by omega
    have HM := Lib.hid hm
    have HG := Lib.hid hg
    have HO := Lib.hid hown'
    clear ho g4 KD hm hg hown'
    go_wp2
    refine bodyPost_ret (v := .tuple #[.agg #[.int .i64 L.start, .slice A1 n c1, .slice A2 l'.length c2], .int .i64 0]) (by simp [results, Try.results23, go_sem, x0, x1, x2]) rfl ?_
    obtain ⟨t1, t2, t3⟩ := end_rows (b := w.heap.size + 2) (B := w.heap.size) hown1 hown2 (by decide) HO.out HG.out (.inl (by cases A2 <;> rfl)) (by omega) hB3 (by omega) hs3 2 (.slice A2 l'.length c2) (.int .i64 L.start) (.slice A1 n c1) (.slice A2 l'.length c2)
    have hm := HM.out
    subst hm
    refine ⟨A1, c1, A2, c2, ?_, ⟨?_, ?_⟩, t3⟩
    · simp only [hdl.out]
    · simp only [hdl.out]; exact t1
    · exact t2
end Go.Proofs.Ytmaojcjnpblffaa
