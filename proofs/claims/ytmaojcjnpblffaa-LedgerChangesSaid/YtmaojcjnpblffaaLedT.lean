/- A ledger as plain data, and how its postings lie in memory. -/
import Derived.Test.YtmaojcjnpblffaaBase
namespace Go.Proofs.Ytmaojcjnpblffaa
open Go.RowKit

structure Paid where
  day : Int
  month : Int
  kind : Int
  amount : Int

def Paid.cells (p : Paid) : List Value := [.int .i64 p.day, .int .i64 p.month, .int .u8 p.kind, .int .i64 p.amount]
def Paid.val (p : Paid) : Value := .agg #[.int .i64 p.day, .int .i64 p.month, .int .u8 p.kind, .int .i64 p.amount]
def paids : List Paid → List Value
  | [] => []
  | p :: l => .int .i64 p.day :: .int .i64 p.month :: .int .u8 p.kind :: .int .i64 p.amount :: paids l
def ints (l : List Int) : List Value := l.map (Value.int .i64)

theorem paids_length : ∀ l, (paids l).length = l.length * 4
  | [] => rfl
  | p :: l => by simp only [paids, List.length_cons, paids_length l]; omega
theorem paids_append : ∀ a b, paids (a ++ b) = paids a ++ paids b
  | [], _ => rfl
  | p :: l, b => by simp only [paids, List.cons_append, paids_append l b]
theorem paids_get : ∀ (l : List Paid) (i : Nat) (h : i < l.length), (paids l)[i * 4]? = some (.int .i64 l[i].day) ∧ (paids l)[i * 4 + 1]? = some (.int .i64 l[i].month) ∧
    (paids l)[i * 4 + 2]? = some (.int .u8 l[i].kind) ∧ (paids l)[i * 4 + 3]? = some (.int .i64 l[i].amount)
  | [], i, h => absurd h (by simp)
  | p :: l, 0, h => ⟨rfl, rfl, rfl, rfl⟩
  | p :: l, i + 1, h => by
    have := paids_get l i (by simpa using h)
    simp only [paids, show (i + 1) * 4 = i * 4 + 1 + 1 + 1 + 1 by omega, show i * 4 + 1 + 1 + 1 + 1 + 1 = (i * 4 + 1) + 1 + 1 + 1 + 1 by omega, show i * 4 + 1 + 1 + 1 + 1 + 2 = (i * 4 + 2) + 1 + 1 + 1 + 1 by omega,
      show i * 4 + 1 + 1 + 1 + 1 + 3 = (i * 4 + 3) + 1 + 1 + 1 + 1 by omega, List.getElem?_cons_succ, List.getElem_cons_succ]
    exact this
theorem paids_drop : ∀ (l : List Paid) (k : Nat), (paids l).drop (k * 4) = paids (l.drop k)
  | l, 0 => by simp
  | [], k + 1 => by simp [paids]
  | p :: l, k + 1 => by
    rw [show (k + 1) * 4 = k * 4 + 1 + 1 + 1 + 1 by omega]
    simp only [paids, List.drop_succ_cons]
    exact paids_drop l k
theorem paids_take : ∀ (l : List Paid) (k : Nat), (paids l).take (k * 4) = paids (l.take k)
  | l, 0 => by simp [paids]
  | [], k + 1 => by simp [paids]
  | p :: l, k + 1 => by
    rw [show (k + 1) * 4 = k * 4 + 1 + 1 + 1 + 1 by omega]
    simp only [paids, List.take_succ_cons]
    rw [paids_take l k]

/-- The slice '.slice A n c' of postings reads as l. -/
structure Posts (w : World) (B : Nat) (A : Option Addr) (n : Nat) (l : List Paid) : Prop where
  len : l.length = n
  reads : Reads w B 4 A n (paids l)
structure Ints (w : World) (B : Nat) (A : Option Addr) (n : Nat) (l : List Int) : Prop where
  len : l.length = n
  reads : Reads w B 1 A n (ints l)

section
variable {w w' : World} {B B' n : Nat} {A : Option Addr}
theorem Posts.later {l : List Paid} {B0 : Nat} (h : Posts w B A n l) (hB : B ≤ B0) (hb : Below B0 w w') : Posts w' B A n l := ⟨h.len, h.reads.later hB hb⟩
theorem Posts.more {l : List Paid} (h : Posts w B A n l) (hB : B ≤ B') : Posts w B' A n l := ⟨h.len, h.reads.more hB⟩
theorem Ints.later {l : List Int} {B0 : Nat} (h : Ints w B A n l) (hB : B ≤ B0) (hb : Below B0 w w') : Ints w' B A n l := ⟨h.len, h.reads.later hB hb⟩
theorem Ints.more {l : List Int} (h : Ints w B A n l) (hB : B ≤ B') : Ints w B' A n l := ⟨h.len, h.reads.more hB⟩
theorem Posts.at_ {l : List Paid} (h : Posts w B A n l) {i : Nat} (hi : i < n) : ∃ x b o, l[i]? = some x ∧ A = some ⟨b, o, none⟩ ∧ b < B ∧
    w.cell? ⟨b, o + i * 4, none⟩ = some (.int .i64 x.day) ∧ w.cell? ⟨b, o + i * 4 + 1, none⟩ = some (.int .i64 x.month) ∧
    w.cell? ⟨b, o + i * 4 + 2, none⟩ = some (.int .u8 x.kind) ∧ w.cell? ⟨b, o + i * 4 + 3, none⟩ = some (.int .i64 x.amount) := by
  obtain ⟨b, o, e, hb, hc⟩ := h.reads.2 (by omega)
  have hl : i < l.length := by rw [h.len]; exact hi
  obtain ⟨g0, g1, g2, g3⟩ := paids_get l i hl
  exact ⟨l[i], b, o, List.getElem?_eq_getElem hl, e, hb, hc _ _ g0, hc _ _ g1, hc _ _ g2, hc _ _ g3⟩
theorem Ints.at_ {l : List Int} (h : Ints w B A n l) {i : Nat} (hi : i < n) : ∃ x b o, l[i]? = some x ∧ A = some ⟨b, o, none⟩ ∧ b < B ∧ w.cell? ⟨b, o + i, none⟩ = some (.int .i64 x) := by
  obtain ⟨b, o, e, hb, hc⟩ := h.reads.2 (by omega)
  have hl : i < l.length := by rw [h.len]; exact hi
  exact ⟨l[i], b, o, List.getElem?_eq_getElem hl, e, hb, hc _ _ (by simp [ints, List.getElem?_eq_getElem hl])⟩
end
end Go.Proofs.Ytmaojcjnpblffaa
