/- The reference: spread, number, check. -/
import Derived.Test.YtbkicepkkcambaaJouP
namespace Go.Proofs.Ytbkicepkkcambaa
open Go.RowKit BigFrame Go.Shelf
set_option linter.unusedVariables false
set_option linter.unusedSimpArgs false

set_option maxRecDepth 100000 in
set_option maxHeartbeats 1000000 in
theorem spread_any (n m : Nat) (w : World) (hn : n < 4294967296) (hm : m ≤ 8) :
    Calls Try.prog 43 #[.int .i64 n, .int .i64 m] w fun e w' => ∃ A c, e = .returned (.slice A m c) ∧ w'.ownsRow w.heap.size 5 1 (.slice A m c) m (bys (le n m)) ∧ Below w.heap.size w w' := by
  go_enter Try.func43, Try.ntmps43
  go_wp2_with fail
  go_loopw [0, 5, 6] (fun t v i wr => ∃ j : Nat, j ≤ m ∧ i = .int .i64 j ∧ t = .int .i64 ((n / 256 ^ j : Nat) : Int) ∧ Below w.heap.size w wr ∧ ∃ A c, v = .slice A j c ∧ wr.ownsRow w.heap.size 5 1 (.slice A j c) j (bys (le n j))) (fun _ _ i _ => m - (intOf i).toNat)
  case atStart => exact ⟨0, Nat.zero_le _, rfl, by simp, Below.refl _ _, none, 0, rfl, World.ownsRow_nil _ _ _ _⟩
  case round =>
    obtain ⟨j, hj, rfl, rfl, hb, A, c, rfl, ho⟩ := hrel
    have hd : n / 256 ^ j < 4294967296 := Nat.lt_of_le_of_lt (Nat.div_le_self _ _) hn
    have hd2 : n / 256 ^ (j + 1) = n / 256 ^ j / 256 := by rw [Nat.pow_succ, Nat.div_div_eq_div_mul]
    have hsn := le_snoc j n
    have HD := Lib.hid hd2
    have HS := Lib.hid hsn
    generalize n / 256 ^ j = q at *
    have hs := hb.size
    clear hd2 hsn
    by_cases hlt : j < m
    · go_wp2_with (at_builtin; go_must (refine elemByte.list_append rfl (.tmp 12) (.tmp 16) rfl rfl (ho.alloc _) rfl (reads_block (b := wr.heap.size) (n := 1) (B := wr.heap.size + 1) (xs := bys [UInt8.ofNat q]) (by omega) (heap_at rfl) (by rw [bys_nat]) rfl) (bys_one _) (by unfold maxLen; omega) (by omega) (by simp; omega) ?_; intro v' w' hown' hg hat; obtain ⟨A', c', hv', _⟩ := own_shape hown'; subst hv'))
      change (wr.alloc _).grownBy w' (Value.slice A j c).ownBlock at hg
      have hW : Below w.heap.size w w' := Below.grown (by go_grown : Below w.heap.size w (wr.alloc _)) hg (by simp; omega) (fun k hk => (ho.lt k hk).1)
      go_roundw
      case rel => exact ⟨j + 1, by omega, by go_num, by rw [HD.out]; simp, hW, A', c', rfl, by rw [HS.out, bys_append]; exact hown'⟩
      case measure => simp [intOf]; omega
    · obtain rfl : j = m := by omega
      go_wp2
      go_ret
      exact ⟨A, c, rfl, ho, hb⟩

theorem num_drop {b : Bytes} {j : Nat} {x : UInt8} (h : b[j]? = some x) : num (b.drop j) = x.toNat + 256 * num (b.drop (j + 1)) := by
  have hj := (List.getElem?_eq_some_iff.1 h).1
  rw [List.drop_eq_getElem_cons hj, (List.getElem?_eq_some_iff.1 h).2]
  rfl
set_option maxRecDepth 100000 in
set_option maxHeartbeats 1000000 in
theorem number_any (A : Option Addr) (n c : Nat) (b : Bytes) (w : World) (h : Bys w w.heap.size A n b) (hn : n ≤ 4) :
    Calls Try.prog 39 #[.slice A n c] w fun e w' => e = .returned (.int .i64 ((num b : Nat) : Int)) ∧ w = w' := by
  have HH := Lib.hid h
  clear h
  go_enter Try.func39, Try.ntmps39
  go_wp2_with fail
  go_loop [3, 4] (fun v i => ∃ k : Nat, k ≤ n ∧ i = .int .i64 ((n : Int) - 1 - k) ∧ v = .int .i64 ((num (b.drop (n - k)) : Nat) : Int)) (fun _ i => (intOf i + 1).toNat)
  case atStart => exact ⟨0, Nat.zero_le _, by simp, by have := HH.out.len; rw [Nat.sub_zero, List.drop_of_length_le (by omega)]; rfl⟩
  case round =>
    obtain ⟨k, hk, rfl, rfl⟩ := hrel
    by_cases hlt : k < n
    · obtain ⟨x, bb, o, hx, hA, hB, cx⟩ := HH.out.at_ (i := n - 1 - k) (by omega)
      subst hA
      have hnd := num_drop hx
      have hnl := num_lt (b.drop (n - k))
      have hl : (b.drop (n - k)).length ≤ 3 := by rw [List.length_drop, HH.out.len]; omega
      have hp : 256 ^ (b.drop (n - k)).length ≤ 256 ^ 3 := Nat.pow_le_pow_right (by omega) hl
      have hx8 := x.toNat_lt
      have e1 : n - 1 - k + 1 = n - k := by omega
      rw [e1] at hnd
      obtain ⟨q, hq⟩ : ∃ q, num (b.drop (n - k)) = q := ⟨_, rfl⟩
      rw [hq] at hnd hnl ⊢
      have hq3 : q < 16777216 := by omega
      have e2 : n - (k + 1) = n - 1 - k := by omega
      obtain ⟨j, hj⟩ : ∃ j : Nat, n - 1 - k = j := ⟨_, rfl⟩
      have hji : (n : Int) - 1 - (k : Int) = (j : Int) := by omega
      rw [hj] at cx hnd e2
      rw [hji]
      have HN := Lib.hid hnd
      have E2 := Lib.hid e2
      have HJ := Lib.hid hji
      have hjn : (j : Int) < (n : Int) := by omega
      clear hx hnd hnl hl hp e1 hq e2 hji hj
      go_wp2
      go_round
      case rel =>
        refine ⟨k + 1, by omega, ?_, ?_⟩
        · have := HJ.out
          first | (congr 1; omega) | (congr 1; done)
        · rw [E2.out, HN.out]
          first | (congr 1; omega) | (congr 1; done) | (congr 1; push_cast; omega)
      case measure => simp [intOf] <;> omega
    · obtain rfl : k = n := by omega
      have e1 : (k : Int) - 1 - (k : Int) = -1 := by omega
      rw [e1, Nat.sub_self, List.drop_zero]
      go_wp2
      go_ret
      exact ⟨rfl, rfl⟩

set_option maxRecDepth 100000 in
set_option maxHeartbeats 1000000 in
theorem check_any (A : Option Addr) (n c : Nat) (b : Bytes) (w : World) (h : Bys w w.heap.size A n b) (hn : n ≤ 5000) :
    Calls Try.prog 40 #[.slice A n c] w fun e w' => e = .returned (.int .i64 ((check b : Nat) : Int)) ∧ w = w' := by
  have HH := Lib.hid h
  have hst := fun (j : Nat) (x : UInt8) (hx : b[j]? = some x) => Lib.hid (csum_take hx)
  clear h
  go_enter Try.func40, Try.ntmps40
  go_wp2_with fail
  go_loop [3, 4] (fun v i => ∃ j : Nat, j ≤ n ∧ i = .int .i64 j ∧ v = .int .i64 ((csum 0 (b.take j) % 4294967296 : Nat) : Int)) (fun _ i => n - (intOf i).toNat)
  case atStart => exact ⟨0, Nat.zero_le _, rfl, by simp [csum]⟩
  case round =>
    obtain ⟨j, hj, rfl, rfl⟩ := hrel
    by_cases hlt : j < n
    · obtain ⟨x, bb, o, hx, hA, hB, cx⟩ := HH.out.at_ (i := j) hlt
      subst hA
      have hs := hst j x hx
      have hxb := x.toNat_lt
      have hmul : (j + 1) * x.toNat ≤ 5000 * 255 := Nat.mul_le_mul (by omega) (by omega)
      obtain ⟨y, hy⟩ : ∃ y, (j + 1) * x.toNat = y := ⟨_, rfl⟩
      have hyi : ((j : Int) + 1) * (x.toNat : Int) = (y : Int) := by rw [← hy]; simp
      rw [hy] at hmul hs
      obtain ⟨q, hq⟩ : ∃ q, csum 0 (b.take j) % 4294967296 = q := ⟨_, rfl⟩
      have hq' : q < 4294967296 := by omega
      have HQ := Lib.hid hq
      rw [hq]
      clear hx hst hq hy
      go_wp2
      go_round
      case rel =>
        refine ⟨j + 1, by omega, by go_num, ?_⟩
        have h1 := hs.out
        have h2 := HQ.out
        rw [h1]
        congr 1
        omega
      case measure => simp [intOf]; omega
    · obtain rfl : j = n := by omega
      clear hst
      have hl := HH.out.len
      have HL := Lib.hid hl
      clear hl
      go_wp2
      go_ret
      refine ⟨ret_int ?_, rfl⟩
      unfold check
      rw [List.take_of_length_le (by rw [HL.out]; exact Nat.le_refl _)]
      omega
end Go.Proofs.Ytbkicepkkcambaa
