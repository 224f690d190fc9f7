/- Records of a journal as plain lists of bytes: their bytes, and what is read from data. No program. -/
namespace Go.Proofs.Ytbkicepkkcambaa
set_option linter.unusedVariables false
set_option linter.unusedSimpArgs false

abbrev Bytes := List UInt8
/-- The bytes of a number, the least significant one first. -/
def le (n : Nat) : Nat → Bytes
  | 0 => []
  | k + 1 => UInt8.ofNat n :: le (n / 256) k
/-- The number with some bytes. -/
def num : Bytes → Nat
  | [] => 0
  | b :: r => b.toNat + 256 * num r
/-- The sum of the bytes, each multiplied by its place, where i bytes lie ahead. -/
def csum (i : Nat) : Bytes → Nat
  | [] => 0
  | b :: r => (i + 1) * b.toNat + csum (i + 1) r
def check (l : Bytes) : Nat := csum 0 l % 4294967296
def headOf (k : Nat) (p : Bytes) : Bytes := le k 4 ++ le p.length 2 ++ p
def formed (k : Nat) (p : Bytes) : Bytes := headOf k p ++ le (check (headOf k p)) 4
def sizeAt (r : Bytes) : Nat := (r.getD 4 0).toNat + 256 * (r.getD 5 0).toNat
/-- The payload of the record with number k at the beginning of r. -/
def nextR (r : Bytes) (k : Nat) : Option Bytes :=
  if 65536 < k ∨ r.length < 6 then none
  else if 4096 < sizeAt r ∨ r.length < sizeAt r + 10 then none
  else if formed k ((r.drop 6).take (sizeAt r)) = r.take (sizeAt r + 10) then some ((r.drop 6).take (sizeAt r)) else none
def scanF : Nat → Bytes → Nat → List Bytes
  | 0, _, _ => []
  | f + 1, r, k => match nextR r k with
    | none => []
    | some p => p :: scanF f (r.drop (p.length + 10)) (k + 1)
def sizes (l : List Bytes) : Nat := (l.map fun p => p.length + 10).sum
/-- The payloads of the records of data. -/
def scan (d : Bytes) : List Bytes := scanF (d.length + 1) d 1
/-- The bytes of records, from number k on. -/
def bytesOf (k : Nat) : List Bytes → Bytes
  | [] => []
  | p :: l => formed k p ++ bytesOf (k + 1) l

theorem le_length (n : Nat) : ∀ k, (le n k).length = k
  | 0 => rfl
  | k + 1 => by simp [le, le_length (n / 256) k]
theorem num_le : ∀ k n, n < 256 ^ k → num (le n k) = n
  | 0, n, h => by simp at h; simp [le, num, h]
  | k + 1, n, h => by
    have h1 : n / 256 < 256 ^ k := by rw [Nat.pow_succ] at h; omega
    simp only [le, num, num_le k _ h1]
    have : (UInt8.ofNat n).toNat = n % 256 := by simp
    omega
theorem num_lt : ∀ l : Bytes, num l < 256 ^ l.length
  | [] => by simp [num]
  | b :: r => by
    have := num_lt r
    have hb := b.toNat_lt
    simp only [num, List.length_cons, Nat.pow_succ]
    omega
theorem le_num : ∀ l : Bytes, le (num l) l.length = l
  | [] => rfl
  | b :: r => by
    have hb := b.toNat_lt
    simp only [List.length_cons, num, le]
    have h1 : (b.toNat + 256 * num r) / 256 = num r := by omega
    have h2 : UInt8.ofNat (b.toNat + 256 * num r) = b := by
      apply UInt8.toNat_inj.1
      simp
    rw [h1, h2, le_num r]
theorem headOf_length (k : Nat) (p : Bytes) : (headOf k p).length = p.length + 6 := by simp [headOf, le_length]; omega
theorem formed_length (k : Nat) (p : Bytes) : (formed k p).length = p.length + 10 := by simp [formed, headOf_length, le_length]
theorem le2 (n : Nat) : le n 2 = [UInt8.ofNat n, UInt8.ofNat (n / 256)] := rfl
theorem le4 (n : Nat) : le n 4 = [UInt8.ofNat n, UInt8.ofNat (n / 256), UInt8.ofNat (n / 256 / 256), UInt8.ofNat (n / 256 / 256 / 256)] := rfl
theorem formed_eq (k : Nat) (p : Bytes) : formed k p = le k 4 ++ (le p.length 2 ++ (p ++ le (check (headOf k p)) 4)) := by simp [formed, headOf]
theorem size_formed {k : Nat} {p t : Bytes} (hp : p.length ≤ 4096) : sizeAt (formed k p ++ t) = p.length := by
  rw [formed_eq, le4, le2]
  simp [sizeAt]
  omega
theorem drop6 (k : Nat) (p t : Bytes) : ((formed k p ++ t).drop 6).take p.length = p := by
  rw [formed_eq, le4, le2]
  simp
theorem take_formed (k : Nat) (p t : Bytes) : (formed k p ++ t).take (p.length + 10) = formed k p := by
  rw [← formed_length k p, List.take_left']
  rfl
theorem nextR_formed {k : Nat} {p : Bytes} (t : Bytes) (hk : k ≤ 65536) (hp : p.length ≤ 4096) : nextR (formed k p ++ t) k = some p := by
  have hl : (formed k p ++ t).length = p.length + 10 + t.length := by simp [formed_length]
  unfold nextR
  rw [size_formed hp, drop6, take_formed, if_neg (by omega), if_neg (by omega), if_pos rfl]
theorem nextR_some {r : Bytes} {k : Nat} {p : Bytes} (h : nextR r k = some p) : k ≤ 65536 ∧ p.length ≤ 4096 ∧ p.length = sizeAt r ∧ p.length + 10 ≤ r.length ∧ r = formed k p ++ r.drop (p.length + 10) := by
  unfold nextR at h
  split at h
  · cases h
  · split at h
    · cases h
    · split at h
      · rename_i h1 h2 h3
        injection h with h
        have hl : p.length = sizeAt r := by rw [← h]; simp; omega
        refine ⟨by omega, by omega, hl, by omega, ?_⟩
        rw [← h, h3, h, hl, List.take_append_drop]
      · cases h
/-- A part of a record from its beginning is no record. -/
theorem nextR_part {k : Nat} {p : Bytes} (hp : p.length ≤ 4096) {m : Nat} (hm : m < p.length + 10) (j : Nat) : nextR ((formed k p).take m) j = none := by
  have hl : ((formed k p).take m).length = m := by rw [List.length_take, formed_length]; omega
  unfold nextR
  rw [hl]
  by_cases h6 : m < 6
  · rw [if_pos (.inr h6)]
  · have hs : sizeAt ((formed k p).take m) = p.length := by
      have := size_formed (k := k) (p := p) (t := []) hp
      rw [List.append_nil] at this
      rw [← this]
      unfold sizeAt
      simp only [List.getD_eq_getElem?_getD, List.getElem?_take]
      rw [if_pos (by omega), if_pos (by omega)]
    rw [hs]
    split
    · rfl
    · rw [if_pos (.inr hm)]
theorem nextR_nil (k : Nat) : nextR [] k = none := by
  unfold nextR
  rw [if_pos (.inr (by simp))]
/-- What is read does not hang on the fuel, as long as there is enough. -/
theorem scanF_fuel : ∀ (f g : Nat) (r : Bytes) (k : Nat), r.length < f → r.length < g → scanF f r k = scanF g r k
  | 0, _, _, _, h, _ => absurd h (by omega)
  | _, 0, _, _, _, h => absurd h (by omega)
  | f + 1, g + 1, r, k, hf, hg => by
    unfold scanF
    cases h : nextR r k with
    | none => rfl
    | some p =>
      have hp := nextR_some h
      have hl : (r.drop (p.length + 10)).length = r.length - (p.length + 10) := List.length_drop
      show p :: scanF f _ _ = p :: scanF g _ _
      rw [scanF_fuel f g (r.drop (p.length + 10)) (k + 1) (by omega) (by omega)]
/-- What follows the records of r, with numbers from k on. -/
def scanAt (r : Bytes) (k : Nat) : List Bytes := scanF (r.length + 1) r k
theorem scan_eq (d : Bytes) : scan d = scanAt d 1 := rfl
theorem scanAt_none {r : Bytes} {k : Nat} (h : nextR r k = none) : scanAt r k = [] := by unfold scanAt scanF; rw [h]
theorem scanAt_some {r : Bytes} {k : Nat} {p : Bytes} (h : nextR r k = some p) : scanAt r k = p :: scanAt (r.drop (p.length + 10)) (k + 1) := by
  have hp := nextR_some h
  have hl : (r.drop (p.length + 10)).length = r.length - (p.length + 10) := List.length_drop
  unfold scanAt
  rw [scanF, h]
  show p :: scanF r.length _ _ = _
  rw [scanF_fuel r.length _ _ _ (by omega) (Nat.lt_succ_self _)]
theorem scanAt_formed {k : Nat} {p : Bytes} (t : Bytes) (hk : k ≤ 65536) (hp : p.length ≤ 4096) : scanAt (formed k p ++ t) k = p :: scanAt t (k + 1) := by
  rw [scanAt_some (nextR_formed t hk hp), ← formed_length k p, List.drop_left']
  rfl
theorem scanAt_bytes : ∀ (l : List Bytes) (k : Nat) (t : Bytes), (∀ p ∈ l, p.length ≤ 4096) → k + l.length ≤ 65537 → scanAt (bytesOf k l ++ t) k = l ++ scanAt t (k + l.length)
  | [], k, t, _, _ => by simp [bytesOf]
  | p :: l, k, t, hp, hk => by
    simp only [bytesOf, List.append_assoc, List.length_cons] at *
    rw [scanAt_formed _ (by omega) (hp p (by simp)), scanAt_bytes l (k + 1) t (fun q hq => hp q (by simp [hq])) (by omega), List.cons_append]
    congr 3
    omega
theorem bytesOf_length : ∀ (l : List Bytes) (k : Nat), (bytesOf k l).length = sizes l
  | [], k => rfl
  | p :: l, k => by simp only [bytesOf, List.length_append, formed_length, bytesOf_length l (k + 1), sizes, List.map_cons, List.sum_cons]
/-- What is read, written again, is where it was read. -/
theorem scanAt_sound : ∀ (f : Nat) (r : Bytes) (k : Nat), r.length < f → r = bytesOf k (scanAt r k) ++ r.drop (sizes (scanAt r k)) ∧ (∀ p ∈ scanAt r k, p.length ≤ 4096) ∧ sizes (scanAt r k) ≤ r.length ∧ nextR (r.drop (sizes (scanAt r k))) (k + (scanAt r k).length) = none
  | 0, r, k, h => absurd h (by omega)
  | f + 1, r, k, hf => by
    cases h : nextR r k with
    | none =>
      rw [scanAt_none h]
      simp [bytesOf, sizes, h]
    | some p =>
      have hp := nextR_some h
      have hl : (r.drop (p.length + 10)).length = r.length - (p.length + 10) := List.length_drop
      obtain ⟨h1, h2, h3, h4⟩ := scanAt_sound f (r.drop (p.length + 10)) (k + 1) (by omega)
      rw [scanAt_some h]
      have hs : sizes (p :: scanAt (r.drop (p.length + 10)) (k + 1)) = p.length + 10 + sizes (scanAt (r.drop (p.length + 10)) (k + 1)) := by simp [sizes]
      rw [hs]
      refine ⟨?_, ?_, by omega, ?_⟩
      · simp only [bytesOf]
        rw [List.append_assoc, show r.drop (p.length + 10 + sizes (scanAt (r.drop (p.length + 10)) (k + 1))) = (r.drop (p.length + 10)).drop (sizes (scanAt (r.drop (p.length + 10)) (k + 1))) by rw [List.drop_drop], ← h1]
        exact hp.2.2.2.2
      · intro q hq
        rcases List.mem_cons.1 hq with e | e
        · rw [e]; exact hp.2.1
        · exact h2 q e
      · rw [show r.drop (p.length + 10 + sizes (scanAt (r.drop (p.length + 10)) (k + 1))) = (r.drop (p.length + 10)).drop (sizes (scanAt (r.drop (p.length + 10)) (k + 1))) by rw [List.drop_drop], List.length_cons, show k + ((scanAt (r.drop (p.length + 10)) (k + 1)).length + 1) = k + 1 + (scanAt (r.drop (p.length + 10)) (k + 1)).length by omega]
        exact h4
end Go.Proofs.Ytbkicepkkcambaa
