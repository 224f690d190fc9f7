/- What is read from a part of records, and from records with a changed byte. No program. -/
import Derived.Test.YtbkicepkkcambaaJouW
namespace Go.Proofs.Ytbkicepkkcambaa
set_option linter.unusedVariables false
set_option linter.unusedSimpArgs false

theorem sizes_cons (p : Bytes) (l : List Bytes) : sizes (p :: l) = p.length + 10 + sizes l := by simp [sizes]
theorem sizes_append (a b : List Bytes) : sizes (a ++ b) = sizes a + sizes b := by simp [sizes]
theorem scan_take : ∀ (l : List Bytes) (k m : Nat), (∀ p ∈ l, p.length ≤ 4096) → k + l.length ≤ 65537 → m ≤ sizes l →
    ∃ j, j ≤ l.length ∧ scanAt ((bytesOf k l).take m) k = l.take j ∧ sizes (l.take j) ≤ m ∧ (j = l.length ∨ m < sizes (l.take (j + 1)))
  | [], k, m, _, _, hm => ⟨0, Nat.le_refl _, by simp [bytesOf, scanAt_none (nextR_nil k)], by simp [sizes], .inl rfl⟩
  | p :: l, k, m, hp, hk, hm => by
    have hpl := hp p (by simp)
    rw [List.length_cons] at hk
    rw [sizes_cons] at hm
    by_cases h : m < p.length + 10
    · refine ⟨0, by simp, ?_, by simp [sizes], .inr ?_⟩
      · simp only [bytesOf]
        rw [List.take_append_of_le_length (by rw [formed_length]; omega), scanAt_none (nextR_part hpl h k)]
        simp
      · simp [sizes]; omega
    · obtain ⟨j, h1, h2, h3, h4⟩ := scan_take l (k + 1) (m - (p.length + 10)) (fun q hq => hp q (by simp [hq])) (by omega) (by omega)
      refine ⟨j + 1, by simp; omega, ?_, ?_, ?_⟩
      · simp only [bytesOf]
        rw [List.take_append, List.take_of_length_le (by rw [formed_length]; omega), formed_length, scanAt_formed _ (by omega) hpl, h2]
        rfl
      · rw [List.take_succ_cons, sizes_cons]; omega
      · rcases h4 with h4 | h4
        · exact .inl (by simp [h4])
        · refine .inr ?_
          rw [List.take_succ_cons, sizes_cons]; omega

theorem csum_append : ∀ (i : Nat) (a b : Bytes), csum i (a ++ b) = csum i a + csum (i + a.length) b
  | i, [], b => by simp [csum]
  | i, x :: a, b => by
    simp only [List.cons_append, csum, csum_append (i + 1) a b, List.length_cons]
    rw [show i + 1 + a.length = i + (a.length + 1) by omega]
    omega
theorem csum_set : ∀ (i : Nat) (l : Bytes) (j : Nat) (v : UInt8) (h : j < l.length), csum i (l.set j v) + (i + j + 1) * (l[j]).toNat = csum i l + (i + j + 1) * v.toNat
  | i, [], j, v, h => absurd h (by simp)
  | i, x :: l, 0, v, h => by simp only [List.set_cons_zero, csum, List.getElem_cons_zero, Nat.add_zero]; omega
  | i, x :: l, j + 1, v, h => by
    have := csum_set (i + 1) l j v (by simpa using h)
    simp only [List.set_cons_succ, csum, List.getElem_cons_succ]
    rw [show i + (j + 1) + 1 = i + 1 + j + 1 by omega]
    omega
theorem xor_ne {x b : UInt8} (h : b ≠ 0) : x ^^^ b ≠ x := by
  intro e
  apply h
  have : x ^^^ (x ^^^ b) = x ^^^ x := by rw [e]
  rwa [← UInt8.xor_assoc, UInt8.xor_self, UInt8.zero_xor] at this
/-- A changed byte of the payload changes the checksum. -/
theorem check_ne {h : Bytes} {j : Nat} {v : UInt8} (hj : j < h.length) (hl : h.length ≤ 5000) (hv : v ≠ h[j]) : check (h.set j v) ≠ check h := by
  have e := csum_set 0 h j v hj
  have hne : v.toNat ≠ (h[j]).toNat := fun e => hv (UInt8.toNat_inj.1 e)
  have b1 := v.toNat_lt
  have b2 := (h[j]).toNat_lt
  unfold check
  generalize csum 0 (h.set j v) = a at *
  generalize csum 0 h = b at *
  generalize v.toNat = x at *
  generalize (h[j]).toNat = y at *
  rw [show 0 + j + 1 = j + 1 by omega] at e
  intro hm
  have c1 : (j + 1) * x ≤ 5000 * 255 := Nat.mul_le_mul (by omega) (by omega)
  have c2 : (j + 1) * y ≤ 5000 * 255 := Nat.mul_le_mul (by omega) (by omega)
  have hab : a = b := by omega
  have hxy : (j + 1) * y = (j + 1) * x := by omega
  exact hne (Nat.eq_of_mul_eq_mul_left (by omega) hxy).symm
theorem le_inj {a b : Nat} (ha : a < 4294967296) (hb : b < 4294967296) (h : le a 4 = le b 4) : a = b := by
  rw [← num_le 4 a (by simpa using ha), ← num_le 4 b (by simpa using hb), h]
theorem check_lt (h : Bytes) : check h < 4294967296 := Nat.mod_lt _ (by omega)
theorem set_ne_self {l : Bytes} {j : Nat} {v : UInt8} (hj : j < l.length) (hv : v ≠ l[j]) : l.set j v ≠ l := by
  intro e
  apply hv
  have : (l.set j v)[j]'(by simpa using hj) = v := List.getElem_set_self _
  rw [← this]
  congr 1
theorem getD_set_ne {l : Bytes} {i j : Nat} {v d : UInt8} (h : i ≠ j) : (l.set i v).getD j d = l.getD j d := by
  rw [List.getD_eq_getElem?_getD, List.getD_eq_getElem?_getD, List.getElem?_set_ne h]
/-- A record with a changed byte, but of its length, is none. -/
theorem nextR_rot {k : Nat} {p : Bytes} (t : Bytes) (hp : p.length ≤ 4096) {n : Nat} (hn : n < p.length + 10) (n4 : n ≠ 4) (n5 : n ≠ 5) {v : UInt8} (hv : ∀ h : n < (formed k p).length, v ≠ (formed k p)[n]) : nextR ((formed k p).set n v ++ t) k = none := by
  have hfl := formed_length k p
  have hv' := hv (by omega)
  have hs : sizeAt ((formed k p).set n v ++ t) = p.length := by
    rw [← size_formed (k := k) (p := p) (t := t) hp]
    unfold sizeAt
    rw [← List.set_append_left _ _ (by omega), getD_set_ne n4, getD_set_ne n5]
  unfold nextR
  rw [hs]
  split
  · rfl
  · split
    · rfl
    · have e1 : ((formed k p).set n v ++ t).take (p.length + 10) = (formed k p).set n v := by
        rw [List.take_left' (by simp [formed_length])]
      rw [e1, if_neg]
      intro heq
      by_cases hin : 6 ≤ n ∧ n < p.length + 6
      · have hp' : (((formed k p).set n v ++ t).drop 6).take p.length = p.set (n - 6) v := by
          rw [formed_eq, le4, le2]
          obtain ⟨m, rfl⟩ : ∃ m, n = m + 6 := ⟨n - 6, by omega⟩
          simp only [List.cons_append, List.nil_append, List.set_cons_succ, List.drop_succ_cons, List.drop_zero, Nat.add_sub_cancel]
          rw [List.set_append_left _ _ (by omega), List.append_assoc, List.take_left' (by simp)]
        rw [hp'] at heq
        have hhd : headOf k (p.set (n - 6) v) = (headOf k p).set n v := by
          unfold headOf
          rw [List.length_set, le4, le2]
          obtain ⟨m, rfl⟩ : ∃ m, n = m + 6 := ⟨n - 6, by omega⟩
          simp
        have hhl := headOf_length k p
        have hset : (formed k p).set n v = (headOf k p).set n v ++ le (check (headOf k p)) 4 := by
          unfold formed
          rw [List.set_append_left _ _ (by omega)]
        rw [hset] at heq
        unfold formed at heq
        rw [hhd] at heq
        have hc := List.append_cancel_left heq
        have hne : v ≠ (headOf k p)[n]'(by omega) := by
          intro e
          apply hv'
          rw [e]
          unfold formed
          rw [List.getElem_append_left]
        exact check_ne (by omega) (by omega) hne (le_inj (check_lt _) (check_lt _) hc)
      · have hp' : (((formed k p).set n v ++ t).drop 6).take p.length = p := by
          by_cases h6 : n < 6
          · rw [← List.set_append_left _ _ (by omega), List.drop_set, if_pos h6, drop6]
          · rw [← List.set_append_left _ _ (by omega), List.drop_set, if_neg h6, List.take_set, drop6, List.set_eq_of_length_le (by omega)]
        rw [hp'] at heq
        exact set_ne_self (by omega) hv' heq.symm
theorem bytesOf_append : ∀ (a b : List Bytes) (k : Nat), bytesOf k (a ++ b) = bytesOf k a ++ bytesOf (k + a.length) b
  | [], b, k => by simp [bytesOf]
  | p :: a, b, k => by
    simp only [List.cons_append, bytesOf, bytesOf_append a b (k + 1), List.append_assoc, List.length_cons]
    rw [show k + 1 + a.length = k + (a.length + 1) by omega]
/-- JournalRot. -/
theorem scan_rot {l : List Bytes} {at_ n : Nat} {p : Bytes} (hl : ∀ p ∈ l, p.length ≤ 4096) (hk : l.length ≤ 65536) (hp : l[at_]? = some p) (hn : n < p.length + 10) (n4 : n ≠ 4) (n5 : n ≠ 5) {v : UInt8} (hv : ∀ x, (bytesOf 1 l)[sizes (l.take at_) + n]? = some x → v ≠ x) :
    scanAt ((bytesOf 1 l).set (sizes (l.take at_) + n) v) 1 = l.take at_ := by
  have hat := (List.getElem?_eq_some_iff.1 hp).1
  have hsplit : l = l.take at_ ++ p :: l.drop (at_ + 1) := by
    rw [← List.getElem?_eq_some_iff.1 hp |>.2, ← List.drop_eq_getElem_cons hat, List.take_append_drop]
  have hpl := hl p (List.mem_of_getElem? hp)
  have htl : (l.take at_).length = at_ := by rw [List.length_take]; omega
  have hb : bytesOf 1 l = bytesOf 1 (l.take at_) ++ (formed (1 + at_) p ++ bytesOf (1 + at_ + 1) (l.drop (at_ + 1))) := by
    conv => lhs; rw [hsplit]
    rw [bytesOf_append, htl]
    rfl
  have hbl := bytesOf_length (l.take at_) 1
  rw [hb] at hv ⊢
  rw [List.set_append_right _ _ (by omega), hbl, Nat.add_sub_cancel_left, List.set_append_left _ _ (by rw [formed_length]; omega), scanAt_bytes _ _ _ (fun q hq => hl q (List.mem_of_mem_take hq)) (by omega), htl, scanAt_none (nextR_rot _ hpl hn n4 n5 fun h => hv _ ?_), List.append_nil]
  rw [List.getElem?_append_right (by omega), hbl, Nat.add_sub_cancel_left, List.getElem?_append_left h, List.getElem?_eq_getElem h]
end Go.Proofs.Ytbkicepkkcambaa
