/- Bytes in memory. -/
import Derived.Test.YtbkicepkkcambaaBase
import Derived.Test.YtbkicepkkcambaaJouS
import Derived.Laws.BytesArg
namespace Go.Proofs.Ytbkicepkkcambaa
open Go.RowKit BigFrame
set_option linter.unusedVariables false
set_option linter.unusedSimpArgs false

def bys (l : Bytes) : List Value := l.map fun b => .int .u8 (b.toNat : Int)
theorem bys_length (l : Bytes) : (bys l).length = l.length := by simp [bys]
theorem bys_append (a b : Bytes) : bys (a ++ b) = bys a ++ bys b := by simp [bys]
theorem bys_get (l : Bytes) (i : Nat) : (bys l)[i]? = l[i]?.map fun b => .int .u8 (b.toNat : Int) := by simp [bys]
theorem bys_one (l : Bytes) : ∀ u ∈ bys l, u.oneCell' = true := by
  intro u hu
  obtain ⟨b, _, rfl⟩ := List.mem_map.1 hu
  rfl
theorem bys_take (l : Bytes) (k : Nat) : (bys l).take k = bys (l.take k) := by simp [bys, List.map_take]
theorem bys_drop (l : Bytes) (k : Nat) : (bys l).drop k = bys (l.drop k) := by simp [bys, List.map_drop]

/-- The slice '.slice A n c' of bytes reads as l. -/
structure Bys (w : World) (B : Nat) (A : Option Addr) (n : Nat) (l : Bytes) : Prop where
  len : l.length = n
  reads : Reads w B 1 A n (bys l)
section
variable {w w' : World} {B B' n : Nat} {A : Option Addr} {l : Bytes}
theorem Bys.later {B0 : Nat} (h : Bys w B A n l) (hB : B ≤ B0) (hb : Below B0 w w') : Bys w' B A n l := ⟨h.len, h.reads.later hB hb⟩
theorem Bys.more (h : Bys w B A n l) (hB : B ≤ B') : Bys w B' A n l := ⟨h.len, h.reads.more hB⟩
theorem Bys.to (h : Bys w w.heap.size A n l) (hb : Below w.heap.size w w') : Bys w' w'.heap.size A n l := (h.later (Nat.le_refl _) hb).more hb.size
theorem Bys.at_ (h : Bys w B A n l) {i : Nat} (hi : i < n) : ∃ x b o, l[i]? = some x ∧ A = some ⟨b, o, none⟩ ∧ b < B ∧ w.cell? ⟨b, o + i, none⟩ = some (.int .u8 (x.toNat : Int)) := by
  obtain ⟨b, o, e, hb, hc⟩ := h.reads.2 (by omega)
  have hl : i < l.length := by rw [h.len]; exact hi
  exact ⟨l[i], b, o, List.getElem?_eq_getElem hl, e, hb, hc _ _ (by rw [bys_get, List.getElem?_eq_getElem hl]; rfl)⟩
theorem Bys.nil_ : Bys w B A 0 [] := ⟨rfl, by simp [bys], fun h => absurd h (by omega)⟩
theorem Bys.of_own {base : Nat} {e : TypeId} {c : Nat} (h : w.ownsRow base e 1 (.slice A n c) n (bys l)) : Bys w w.heap.size A n l :=
  ⟨by have := h.1; rw [bys_length] at this; omega, Reads.of_own h⟩
/-- A part of a slice that is not empty, from an index on. -/
theorem Bys.part {b o : Nat} (h : Bys w B (some ⟨b, o, none⟩) n l) {i k : Nat} (hk : i + k ≤ n) : Bys w B (some ⟨b, o + i, none⟩) k ((l.drop i).take k) := by
  refine ⟨by rw [List.length_take, List.length_drop, h.len]; omega, by rw [bys_length, List.length_take, List.length_drop, h.len]; omega, fun hn => ?_⟩
  obtain ⟨b', o', e, hb, hc⟩ := h.reads.2 (by omega)
  injection e with e
  injection e with e1 e2
  subst e1; subst e2
  refine ⟨b, o + i, rfl, hb, fun j u hu => ?_⟩
  rw [bys_get, List.getElem?_take] at hu
  split at hu
  · rw [List.getElem?_drop, ← bys_get] at hu
    rw [Nat.add_assoc]
    exact hc _ _ hu
  · cases hu
/-- The conversion to a string. -/
theorem Bys.conv {P : Program} (h : Bys w B A n l) (src e dst : TypeId) (c : Nat) (hs : P.underlying src = some (.slice e)) (he : P.underlying e = some (.int .u8)) (hd : P.underlying dst = some .string) :
    (convert src dst (.slice A n c)).run P w = .ok (.string ⟨l.toArray⟩) w := by
  have hstr : strOfNums (l.map fun b => (b.toNat : Int)) = ⟨l.toArray⟩ := by
    unfold strOfNums
    congr 2
    rw [List.map_map]
    conv => rhs; rw [← List.map_id l]
    apply List.map_congr_left
    intro b _
    show UInt8.ofNat ((b.toNat : Int)).toNat = b
    rw [Int.toNat_natCast, UInt8.ofNat_toNat]
  rcases Nat.eq_zero_or_pos n with hn | hn
  · subst hn
    obtain rfl : l = [] := List.eq_nil_of_length_eq_zero h.len
    rw [run_convert_bytes_string w src dst e _ 0 c hs he hd]
    cases A <;> simp [Conv.bytesToString, loadCells]
    all_goals rfl
  · obtain ⟨b, o, rfl, _, hc⟩ := h.reads.2 hn
    have := run_convert_bytes_arg (P := P) (w := w) src e hs he b o n c (l.map fun b => (b.toNat : Int)) (by simp [h.len]) (fun i hi => ?_) dst hd
    · rw [this, hstr]
    · have hl : i < l.length := by rw [h.len]; exact hi
      rw [hc i (.int .u8 (l[i].toNat : Int)) (by rw [bys_get, List.getElem?_eq_getElem hl]; rfl)]
      simp [List.getD_eq_getElem?_getD, hl]
end
theorem elemByte : ElemT Try.prog 25 5 (.int .u8 0) 1 1 := ⟨Try.underlying25, by kernel_rfl, rfl, by omega⟩
end Go.Proofs.Ytbkicepkkcambaa
