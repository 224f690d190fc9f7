/- Words for memory and small lemmas that all walks of this seat share: a slice that reads as a list of cells, the class of worlds that are as an earlier world was below its blocks, and equalities of results. -/
import Derived.Test.YtbkicepkkcambaaProg
import Derived.WalkKit
import Derived.WalkSpells
import Derived.WalkLawsBesides
import Derived.Handy
import Derived.Deep.QuietTactic
import Derived.BigQuiet
import Derived.Deep.AppendLies
import Derived.Maps.AppendAt
import Derived.Lib.Hide
namespace Go.Proofs.Ytbkicepkkcambaa
open Go.RowKit

/-- The slice value '.slice A n c' holds the cells xs (size cells an element) and lies below block B. -/
def Reads (w : World) (B size : Nat) (A : Option Addr) (n : Nat) (xs : List Value) : Prop :=
  xs.length = n * size ∧ (0 < n → ∃ b o, A = some ⟨b, o, none⟩ ∧ b < B ∧ ∀ j u, xs[j]? = some u → w.cell? ⟨b, o + j, none⟩ = some u)

section
variable {w w' : World} {B B' size n : Nat} {A : Option Addr} {xs : List Value}
theorem Reads.none_ : Reads w B size A 0 [] := ⟨by simp, fun h => absurd h (by omega)⟩
theorem Reads.keep (h : Reads w B size A n xs) (hk : ∀ p : Addr, p.block < B → w'.cell? p = w.cell? p) : Reads w' B size A n xs :=
  ⟨h.1, fun hn => by
    obtain ⟨b, o, e, hb, hc⟩ := h.2 hn
    exact ⟨b, o, e, hb, fun j u hu => (hk _ hb).trans (hc j u hu)⟩⟩
theorem Reads.more (h : Reads w B size A n xs) (hB : B ≤ B') : Reads w B' size A n xs :=
  ⟨h.1, fun hn => by
    obtain ⟨b, o, e, hb, hc⟩ := h.2 hn
    exact ⟨b, o, e, by omega, hc⟩⟩
theorem Reads.below (h : Reads w B size A n xs) (hb : Below B w w') : Reads w' B size A n xs := h.keep fun _ hp => hb.cell hp
theorem Reads.later {B0 : Nat} (h : Reads w B size A n xs) (hB : B ≤ B0) (hb : Below B0 w w') : Reads w' B size A n xs := h.below (hb.mono hB)
theorem Reads.alloc (h : Reads w B size A n xs) (hB : B ≤ w.heap.size) (o : Obj) : Reads (w.alloc o) B size A n xs := h.keep fun p hp => World.cell?_alloc_lt w o p (by omega)
theorem Reads.setCell (h : Reads w B size A n xs) {p : Addr} (hB : B ≤ p.block) (u : Value) : Reads (w.setCell p u) B size A n xs :=
  h.keep fun q hq => World.cell?_setCell_other w p q u (fun e => by subst e; omega)
theorem Reads.of_own {base : Nat} {e : TypeId} {c : Nat} (h : w.ownsRow base e size (.slice A n c) n xs) : Reads w w.heap.size size A n xs := by
  refine ⟨h.1, fun hn => ?_⟩
  rcases h.2 with ⟨h1, h2⟩ | ⟨g, cap, cur, hv, _, hg, _⟩
  · omega
  · have hA : A = some ⟨g, 0, none⟩ := by injection hv
    subst hA
    refine ⟨_, _, rfl, (Array.getElem?_eq_some_iff.1 hg).1, fun j u hu => ?_⟩
    have := h.cells (g := g) rfl j u hu
    rwa [Addr.add_lit] at this
theorem Reads.cut (h : Reads w B size A n xs) {k cap : Nat} (hk : k ≤ n) (hc : n ≤ cap) :
    Reads w B size (if cap = k then A else A.map (·.add (k * size))) (n - k) (xs.drop (k * size)) := by
  refine ⟨by rw [List.length_drop, h.1, Nat.sub_mul], fun hn => ?_⟩
  obtain ⟨b, o, rfl, hb, hcell⟩ := h.2 (by omega)
  rw [if_neg (by omega)]
  refine ⟨b, o + k * size, by simp [Addr.add_lit], hb, fun j u hu => ?_⟩
  rw [Nat.add_assoc]
  exact hcell _ u (by rw [← hu, List.getElem?_drop])
theorem Reads.take (h : Reads w B size A n xs) {k : Nat} (hk : k ≤ n) : Reads w B size A k (xs.take (k * size)) := by
  refine ⟨by rw [List.length_take, h.1]; have := Nat.mul_le_mul_right size hk; omega, fun hn => ?_⟩
  obtain ⟨b, o, rfl, hb, hcell⟩ := h.2 (by omega)
  refine ⟨b, o, rfl, hb, fun j u hu => hcell j u ?_⟩
  rw [List.getElem?_take] at hu
  split at hu
  · exact hu
  · cases hu
/-- From cells at 'ad.add j' (an argument's reading): what is read has no spot. -/
theorem Reads.of_add {ad : Addr} (hs : 0 < size) (hl : xs.length = n * size) (hb : ad.block < B) (hc : ∀ j u, xs[j]? = some u → w.cell? (ad.add j) = some u) : Reads w B size (some ad) n xs := by
  refine ⟨hl, fun hn => ?_⟩
  have h0 : 0 < xs.length := by rw [hl]; exact Nat.mul_pos hn hs
  have hx := hc 0 _ (List.getElem?_eq_getElem h0)
  obtain ⟨b, o, sp⟩ := ad
  cases sp with
  | none => exact ⟨b, o, rfl, hb, fun j u hu => by have := hc j u hu; rwa [Addr.add_lit] at this⟩
  | some s => simp [Addr.add, World.cell?] at hx; split at hx <;> simp at hx
end

/-- The worlds that are as w was in all blocks of w. -/
structure Later (w : World) where
  val : World
  ok : Below w.heap.size w val
def Later.here (w : World) : Later w := ⟨w, Below.refl _ _⟩
instance (w : World) : Inhabited (Later w) := ⟨Later.here w⟩
def Later.drew (w : World) : Later w := ⟨{ w with drawn := w.drawn + 1 }, (Below.refl _ w).drew⟩
theorem Later.cell {w : World} (p : Later w) {a : Addr} {v : Value} (ha : a.block < w.heap.size) (h : w.cell? a = some v) : p.val.cell? a = some v := (p.ok.cell ha).trans h
/-- A callee's contract, met in a world of the class. -/
theorem Calls.later {P : Program} {f : FuncId} {args : Array Value} {w : World} (p : Later w) {v : Value}
    (h : Calls P f args p.val fun e w' => e = .returned v ∧ Below p.val.heap.size p.val w') : Calls P f args p.val fun e w'' => e = .returned v ∧ ∃ q : Later w, w'' = q.val :=
  h.mono fun _ w' ⟨he, hb⟩ => ⟨he, ⟨w', p.ok.trans (hb.mono p.ok.size)⟩, rfl⟩

/-- A region that draws its order, whose operations read and whose callees leave alone what was there: one walk in the order of the text. -/
theorem wp_region_later {P : Program} {id : Nat} {Q : Exit → Act → World → Prop} {a : Act} {w : World} {l : List Oper} (hm : P.follows .mixedOrders = true) (hB : Region.lexB .any l.toArray = true)
    (h : wpQuiet P l.toArray (fun w' => ∃ p : Later w, w' = p.val) (fun a' => ∀ w', (∃ p : Later w, w' = p.val) → Q .normal a' w') l a) : (Code.region id l.toArray true).wp P Q a w :=
  wp_region_quiet (C := fun w' => ∃ p : Later w, w' = p.val) hm hB ⟨Later.drew w, rfl⟩ (by simpa using h)

/-- A function with a body is entered by a call through its value. -/
def Enters_ (P : Program) (f : FuncId) : Prop := ∀ (args : Array Value) (w : World), (callFunc f args).run P w = .ok (.enter f args) w
theorem Enters_.out {P : Program} {f : FuncId} (h : Enters_ P f) : ∀ (args : Array Value) (w : World), Sem.run P (callFunc f args) w = .ok (.enter f args) w := h
theorem enters_ {P : Program} {f : FuncId} {fn : Func} {c : Code} (hf : P.funcs[f]? = some fn) (hname : (fn.name == "runtime.NumGoroutine") = false) (hb : fn.body = some c) : Enters_ P f := by
  intro args w
  have h1 : fn.name ≠ "runtime.NumGoroutine" := by simpa using hname
  simp [callFunc, hf, h1, hb, mark]

theorem ret_int {k : IntKind} {a b : Int} (h : a = b) : Ending.returned (.int k a) = .returned (.int k b) := by rw [h]
theorem ret_bool {a b : Bool} (h : a = b) : Ending.returned (.bool a) = .returned (.bool b) := by rw [h]
theorem ret_val {a b : Value} (h : a = b) : Ending.returned a = .returned b := by rw [h]

theorem dec_of {a b : Prop} [Decidable a] [Decidable b] (h : a ↔ b) : decide a = decide b := decide_eq_decide.2 h
theorem false_dec {b : Prop} [Decidable b] (h : ¬ b) : false = decide b := (decide_eq_false h).symm
theorem true_dec {b : Prop} [Decidable b] (h : b) : true = decide b := (decide_eq_true h).symm

theorem bcell {W w1 : World} {B : Nat} (hb : Below B W w1) : (∀ b o, b < B → w1.cell? ⟨b, o, none⟩ = W.cell? ⟨b, o, none⟩) ∧ (∀ b o, b < B → w1.frozen? ⟨b, o, none⟩ = W.frozen? ⟨b, o, none⟩) :=
  ⟨fun b o h => hb.cell (p := ⟨b, o, none⟩) h, fun b o h => hb.frozen (p := ⟨b, o, none⟩) h⟩
/-- Three cells of one block, behind a call that leaves alone what was there. -/
theorem held3 {W w1 : World} {b : Nat} {v0 v1 v2 : Value} (hb : Below W.heap.size W w1) (hl : b < W.heap.size) (h : W.cell? ⟨b, 0, none⟩ = some v0 ∧ W.cell? ⟨b, 1, none⟩ = some v1 ∧ W.cell? ⟨b, 2, none⟩ = some v2) :
    w1.cell? ⟨b, 0, none⟩ = some v0 ∧ w1.cell? ⟨b, 1, none⟩ = some v1 ∧ w1.cell? ⟨b, 2, none⟩ = some v2 := by
  obtain ⟨hc, _⟩ := bcell hb
  exact ⟨(hc _ _ hl).trans h.1, (hc _ _ hl).trans h.2.1, (hc _ _ hl).trans h.2.2⟩
theorem after {w W w1 : World} (h : Below w.heap.size w W) (hb : Below W.heap.size W w1) : Below w.heap.size w w1 := h.trans (hb.mono h.size)


/-- What is known of an element type: its zero value, its cells and its bytes. -/
structure ElemT (P : Program) (t e : TypeId) (z : Value) (size bytes : Nat) : Prop where
  under : P.underlying t = some (.slice e)
  row : (P.info? e).map (fun i => (i.zero, i.size, i.bytes)) = some (some z, size, bytes)
  cells : z.cells.size = size
  pos : 0 < size

/-- An append onto a row of the call's own: the source may be nil, empty or not. -/
theorem ElemT.run_append {P : Program} {t e : TypeId} {z : Value} {size bytes : Nat} (E : ElemT P t e z size bytes) (ty : TypeId) {w : World} {base n : Nat} {v : Value} {xs : List Value} (hown : w.ownsRow base e size v n xs)
    {B : Nat} {A : Option Addr} {m : Nat} (c : Nat) {news : List Value} (hr : Reads w B size A m news) (h1 : ∀ u ∈ news, u.oneCell' = true) (h63 : n + m ≤ maxLen) (hb : (n + m) * bytes ≤ 140737488355328) (hbase : base ≤ w.heap.size) :
    ∃ v' w', (Builtin.append_ #[t, t] ty #[v, .slice A m c]).run P w = .ok v' w' ∧ w'.ownsRow base e size v' (n + m) (xs ++ news) ∧ w.grownBy w' v.ownBlock ∧ (v'.ownBlock = v.ownBlock ∨ v'.ownBlock = some w.heap.size) := by
  obtain ⟨i, hi, hz, hs, hby⟩ := info_parts E.row
  have hzero : m = 0 → news = [] := fun h => List.eq_nil_of_length_eq_zero (by rw [hr.1, h]; simp)
  cases A with
  | some a =>
    have hcells : ∀ j u, news[j]? = some u → w.cell? (a.add j) = some u := by
      intro j u hu
      by_cases hm : m = 0
      · rw [hzero hm] at hu; simp at hu
      · obtain ⟨b, o, h, _, hc⟩ := hr.2 (by omega)
        cases h
        rw [Addr.add_lit]
        exact hc j u hu
    obtain ⟨v', w', h2, h3, h4, _, h5⟩ := run_append_own_at (P := P) w base t ty e i z size bytes E.under hi hz hs hby E.cells E.pos v n xs hown a m c news hr.1 hcells h1 h63 hb hbase
    exact ⟨v', w', h2, h3, h4, h5⟩
  | none =>
    have hm : m = 0 := by
      by_cases hm : m = 0
      · exact hm
      · obtain ⟨_, _, h, _⟩ := hr.2 (by omega)
        cases h
    rw [hm, hzero hm, Nat.add_zero, List.append_nil]
    refine ⟨v, w, ?_, hown, World.grownBy.refl w _, .inl rfl⟩
    rcases hown.2 with ⟨rfl, _⟩ | ⟨g, cap, cur, rfl, _, _, hnc, _⟩
    · simp [Builtin.append_, run_underlying E.under, sizeOf, typeInfo, hi, Builtin.lenOf, Builtin.firstCells]
    · simp [Builtin.append_, run_underlying E.under, sizeOf, typeInfo, hi, Builtin.lenOf, Builtin.firstCells, hnc, storeCells]

theorem ElemT.wp_append {P : Program} {t e : TypeId} {z : Value} {size bytes : Nat} (E : ElemT P t e z size bytes) {o : Oper} {a : Act} {K : Act → World → Prop} {Q : Exit → Act → World → Prop} (s x : Operand)
    (ho : o.op = .call { callee := .builtin .append, args := #[s, x], argTypes := #[t, t] }) {w : World} {base n : Nat} {v : Value} {xs : List Value} (hs : a.eval s = v) (hown : w.ownsRow base e size v n xs)
    {B : Nat} {A : Option Addr} {m c : Nat} {news : List Value} (hx : a.eval x = .slice A m c) (hr : Reads w B size A m news) (h1 : ∀ u ∈ news, u.oneCell' = true) (h63 : n + m ≤ maxLen) (hb : (n + m) * bytes ≤ 140737488355328) (hbase : base ≤ w.heap.size)
    (h : ∀ v' w', w'.ownsRow base e size v' (n + m) (xs ++ news) → w.grownBy w' v.ownBlock → (v'.ownBlock = v.ownBlock ∨ v'.ownBlock = some w.heap.size) → K (a.put o.dst v') w') : o.wp P a w K Q := by
  obtain ⟨v', w', hrun, h2, h3, h4⟩ := E.run_append o.type hown c hr h1 h63 hb hbase
  unfold Oper.wp execOp
  simp only [ho, resolve, invoke, builtin, Sem.run_bind, Sem.run_pure, Result.andThen_ok, List.map_toArray, List.map_cons, List.map_nil, hs, hx, hrun]
  exact h v' w' h2 h3 h4

/-- The same at the head of a list of operations. -/
theorem ElemT.list_append {P : Program} {t e : TypeId} {z : Value} {size bytes : Nat} (E : ElemT P t e z size bytes) {ops : Array Oper} {rest : List Oper} {o : Oper} {a : Act} {Q : Exit → Act → World → Prop} (hgd : o.guard = none) (s x : Operand)
    (ho : o.op = .call { callee := .builtin .append, args := #[s, x], argTypes := #[t, t] }) {w : World} {base n : Nat} {v : Value} {xs : List Value} (hs : a.eval s = v) (hown : w.ownsRow base e size v n xs)
    {B : Nat} {A : Option Addr} {m c : Nat} {news : List Value} (hx : a.eval x = .slice A m c) (hr : Reads w B size A m news) (h1 : ∀ u ∈ news, u.oneCell' = true) (h63 : n + m ≤ maxLen) (hb : (n + m) * bytes ≤ 140737488355328) (hbase : base ≤ w.heap.size)
    (h : ∀ v' w', w'.ownsRow base e size v' (n + m) (xs ++ news) → w.grownBy w' v.ownBlock → (v'.ownBlock = v.ownBlock ∨ v'.ownBlock = some w.heap.size) → wpList P ops Q rest (a.put o.dst v') w') : wpList P ops Q (o :: rest) a w :=
  wpList_plain hgd fun _ hK => E.wp_append s x ho hs hown hx hr h1 h63 hb hbase fun v' w' h2 h3 h4 => hK _ _ (h v' w' h2 h3 h4)

theorem grown_cell {w w' : World} {row : Option Nat} (hg : w.grownBy w' row) {b : Nat} (hb : b < w.heap.size) (hne : ∀ k, row = some k → k ≠ b) (o : Nat) : w'.cell? ⟨b, o, none⟩ = w.cell? ⟨b, o, none⟩ ∧ w'.frozen? ⟨b, o, none⟩ = w.frozen? ⟨b, o, none⟩ := by
  have h := hg.block b hb (fun e => hne b e.symm rfl)
  exact ⟨World.cell?_of_block (w := w) (a := ⟨b, o, none⟩) h, World.frozen?_of_block (w := w) (a := ⟨b, o, none⟩) h⟩

/-- What an owned row is as a value: a slice of that length. -/
theorem own_shape {w : World} {base : Nat} {e : TypeId} {size n : Nat} {v : Value} {xs : List Value} (h : w.ownsRow base e size v n xs) : ∃ A c, v = .slice A n c ∧ n ≤ c ∧ c ≤ maxLen := by
  rcases h.2 with ⟨rfl, rfl⟩ | ⟨g, cap, cur, rfl, _, _, h1, h2, _⟩
  · exact ⟨none, 0, rfl, Nat.le_refl _, Nat.zero_le _⟩
  · exact ⟨some ⟨g, 0, none⟩, cap, rfl, h1, h2⟩
theorem own_kept {w w' : World} {base B : Nat} {e : TypeId} {size n : Nat} {v : Value} {xs : List Value} (h : w.ownsRow base e size v n xs) (hb : Below B w w') (hB : w.heap.size ≤ B) : w'.ownsRow base e size v n xs :=
  h.kept (row := none) ⟨hb.os, hb.tape, hb.output, hb.size, fun k hk _ => hb.block k (by omega)⟩ (by cases v.ownBlock <;> simp)
theorem own_grown {w w' : World} {base : Nat} {e : TypeId} {size n : Nat} {v : Value} {xs : List Value} {row : Option Nat} (h : w.ownsRow base e size v n xs) (hg : w.grownBy w' row) (hne : ∀ k, v.ownBlock = some k → row ≠ some k) : w'.ownsRow base e size v n xs :=
  h.kept hg (by
    cases hv : v.ownBlock with
    | none => exact .inl rfl
    | some k => exact .inr fun h => hne k hv h.symm)
theorem own_set {w : World} {base : Nat} {e : TypeId} {size n : Nat} {v : Value} {xs : List Value} (h : w.ownsRow base e size v n xs) {p : Addr} (hne : ∀ k, v.ownBlock = some k → k ≠ p.block) (u : Value) : (w.setCell p u).ownsRow base e size v n xs :=
  own_grown h (row := some p.block) ⟨rfl, rfl, rfl, by simp [World.setCell], fun k _ hk => Below.heap_setCell w p u k fun e => hk (by rw [e])⟩ fun k hk e => hne k hk (by injection e with e; exact e.symm)
/-- Rows of different element types lie in different blocks. -/
theorem own_ne {w : World} {base base' : Nat} {e e' : TypeId} {size size' n n' : Nat} {v v' : Value} {xs xs' : List Value} (h : w.ownsRow base e size v n xs) (h' : w.ownsRow base' e' size' v' n' xs') (hne : e ≠ e') {k : Nat} (hk : v.ownBlock = some k) : v'.ownBlock ≠ some k := by
  intro hk'
  rcases h.2 with ⟨rfl, _⟩ | ⟨g, cap, cur, rfl, _, hh, _⟩
  · simp [Value.ownBlock] at hk
  · rcases h'.2 with ⟨rfl, _⟩ | ⟨g', cap', cur', rfl, _, hh', _⟩
    · simp [Value.ownBlock] at hk'
    · simp [Value.ownBlock] at hk hk'
      subst hk; subst hk'
      rw [hh] at hh'
      injection hh' with hh'
      injection hh' with _ ht
      exact hne ht
theorem own_more {w : World} {base base' : Nat} {e : TypeId} {size n : Nat} {v : Value} {xs : List Value} (h : w.ownsRow base e size v n xs) (hb : base' ≤ base) : w.ownsRow base' e size v n xs := by
  refine ⟨h.1, ?_⟩
  rcases h.2 with h2 | ⟨g, cap, cur, hv, hg, r⟩
  · exact .inl h2
  · exact .inr ⟨g, cap, cur, hv, by omega, r⟩

/-- Two rows of the call's own; one was appended to, while a struct that holds both lay in the block behind them; then the struct and the result's block were written. -/
theorem end_rows {w w3 w4 : World} {base e1 e2 s1 s2 n1 n2 n3 : Nat} {v1 v2 v3 : Value} {x1 x2 x3 : List Value} {o : Obj} {b B : Nat} (h1 : w3.ownsRow base e1 s1 v1 n1 x1) (h2 : w3.ownsRow base e2 s2 v2 n2 x2) (hne : e1 ≠ e2)
    (h3 : w4.ownsRow base e2 s2 v3 n3 x3) (hg : (w3.alloc o).grownBy w4 v2.ownBlock) (hat : v3.ownBlock = v2.ownBlock ∨ v3.ownBlock = some (w3.alloc o).heap.size) (hb : b < base) (hw : Below B w w3) (hB : B ≤ b) (hs : base ≤ w3.heap.size) (j : Nat) (u0 u1 u2 u3 : Value) :
    ((((w4.setCell ⟨w3.heap.size, j, none⟩ u0).setCell ⟨b, 0, none⟩ u1).setCell ⟨b, 1, none⟩ u2).setCell ⟨b, 2, none⟩ u3).ownsRow B e1 s1 v1 n1 x1 ∧
    ((((w4.setCell ⟨w3.heap.size, j, none⟩ u0).setCell ⟨b, 0, none⟩ u1).setCell ⟨b, 1, none⟩ u2).setCell ⟨b, 2, none⟩ u3).ownsRow B e2 s2 v3 n3 x3 ∧
    Below B w ((((w4.setCell ⟨w3.heap.size, j, none⟩ u0).setCell ⟨b, 0, none⟩ u1).setCell ⟨b, 1, none⟩ u2).setCell ⟨b, 2, none⟩ u3) := by
  have k1 : ∀ k, v1.ownBlock = some k → base ≤ k ∧ k < w3.heap.size := h1.lt
  have k2 : ∀ k, v2.ownBlock = some k → base ≤ k ∧ k < w3.heap.size := h2.lt
  have k3 : ∀ k, v3.ownBlock = some k → base ≤ k ∧ k ≠ w3.heap.size := by
    intro k hk
    rcases hat with e | e
    · rw [e] at hk; have := k2 k hk; omega
    · rw [e] at hk; simp at hk; omega
  have a1 := own_grown (h1.alloc o) hg fun k hk => own_ne h1 h2 hne hk
  have t1 : w4.ownsRow base e1 s1 v1 n1 x1 := a1
  refine ⟨own_more (own_set (own_set (own_set (own_set t1 ?_ _) ?_ _) ?_ _) ?_ _) (by omega), own_more (own_set (own_set (own_set (own_set h3 ?_ _) ?_ _) ?_ _) ?_ _) (by omega), ?_⟩
  · intro k hk e; have := k1 k hk; dsimp only at e; omega
  · intro k hk e; have := k1 k hk; dsimp only at e; omega
  · intro k hk e; have := k1 k hk; dsimp only at e; omega
  · intro k hk e; have := k1 k hk; dsimp only at e; omega
  · intro k hk e; have := k3 k hk; dsimp only at e; omega
  · intro k hk e; have := k3 k hk; dsimp only at e; omega
  · intro k hk e; have := k3 k hk; dsimp only at e; omega
  · intro k hk e; have := k3 k hk; dsimp only at e; omega
  · exact (((((hw.alloc (by omega) o).grown hg (by simp; omega) fun k hk => by have := k2 k hk; omega).setCell (by dsimp only; omega) u0).setCell (by dsimp only; omega) u1).setCell (by dsimp only; omega) u2).setCell (by dsimp only; omega) u3

theorem own_some {w : World} {base : Nat} {e : TypeId} {size n c : Nat} {A : Option Addr} {xs : List Value} (h : w.ownsRow base e size (.slice A n c) n xs) (hn : 0 < n) : ∃ g, A = some ⟨g, 0, none⟩ ∧ base ≤ g ∧ g < w.heap.size := by
  rcases h.2 with ⟨_, h0⟩ | ⟨g, cap, cur, hv, hb, hh, _⟩
  · omega
  · refine ⟨g, by injection hv, hb, (Array.getElem?_eq_some_iff.1 hh).1⟩
theorem reads_one (w : World) (v : Value) (t : TypeId) {b : Nat} (hb : b = w.heap.size) : Reads (w.alloc (.cells #[v] t)) (w.alloc (.cells #[v] t)).heap.size 1 (some ⟨b, 0, none⟩) 1 [v] :=
  ⟨rfl, fun _ => ⟨b, 0, rfl, by subst hb; simp, fun j u hu => by
    have hj : j = 0 := by
      have := (List.getElem?_eq_some_iff.1 hu).1
      simpa using this
    subst hj
    simp at hu
    subst hu
    subst hb
    simp⟩⟩

theorem zeroCells_mem (z : Array Value) (n : Nat) : ∀ u ∈ (Builtin.zeroCells z n).toList, u ∈ z.toList := by
  intro u hu
  simp only [Builtin.zeroCells, Array.toList_map, List.mem_map] at hu
  obtain ⟨i, hi, rfl⟩ := hu
  have hz : 0 < z.size := by
    rcases Nat.eq_zero_or_pos z.size with h | h
    · simp [h] at hi
    · exact h
  rw [getElem!_pos z (i % z.size) (Nat.mod_lt _ hz)]
  simp

/-- 'clear' of the last elements of an owned row: what stands ahead of them stays. -/
theorem ElemT.run_clear {P : Program} {t e : TypeId} {z : Value} {size bytes : Nat} (E : ElemT P t e z size bytes) (ty : TypeId) {w : World} {g : Nat} {cur : Array Value} (hh : w.heap[g]? = some (.cells cur e (0, 0))) (hz : ∀ w, (zeroValue e).run P w = .ok z w)
    (h1 : ∀ u ∈ z.cells.toList, u.oneCell' = true) (o k c : Nat) (hk : 0 < k) (hfit : o + k * size ≤ cur.size) :
    ∃ cur', (Builtin.clear_ #[t] ty #[.slice (some ⟨g, o, none⟩) k c]).run P w = .ok (.tuple #[]) (w.setRow g cur') ∧ cur'.size = cur.size ∧ cur'.toList.take o = cur.toList.take o := by
  have hl : (Builtin.zeroCells z.cells k).toList.length = k * size := by simp [size_zeroCells, E.cells]
  have hst := run_storeCells_at P g o e (Builtin.zeroCells z.cells k).toList 0 cur w hh (by rw [hl]; omega) (fun v hv => h1 v (zeroCells_mem _ _ v hv))
  simp only [Nat.add_zero] at hst
  obtain ⟨m, rfl⟩ : ∃ m, k = m + 1 := ⟨k - 1, by omega⟩
  refine ⟨(cur.toList.take o ++ (Builtin.zeroCells z.cells (m + 1)).toList ++ cur.toList.drop (o + (Builtin.zeroCells z.cells (m + 1)).toList.length)).toArray, ?_, ?_, ?_⟩
  · simp only [Builtin.clear_]
    simp [run_underlying E.under, hz, hst]
  · simp only [List.size_toArray, List.length_append, List.length_take, List.length_drop, hl, Array.length_toList]
    omega
  · simp only [List.append_assoc]
    rw [List.take_append_of_le_length (by simp; omega), List.take_take]
    simp
theorem grown_trans {a b c : World} {g : Option Nat} (h : a.grownBy b g) (k : b.grownBy c g) : a.grownBy c g :=
  ⟨k.os.trans h.os, k.tape.trans h.tape, k.output.trans h.output, Nat.le_trans h.size k.size, fun i hi hne => (k.block i (Nat.lt_of_lt_of_le hi h.size) hne).trans (h.block i hi hne)⟩
theorem grown_of_below {b c : World} {g : Option Nat} (k : Below b.heap.size b c) : b.grownBy c g := ⟨k.os, k.tape, k.output, k.size, fun i hi _ => k.block i hi⟩
theorem grown_set (w : World) (p : Addr) (u : Value) : w.grownBy (w.setCell p u) (some p.block) :=
  ⟨rfl, rfl, rfl, by simp [World.setCell], fun k _ hk => Below.heap_setCell w p u k fun e => hk (by rw [e])⟩

end Go.Proofs.Ytbkicepkkcambaa
