/- formed. -/
import Derived.Test.YtbkicepkkcambaaJouC
namespace Go.Proofs.Ytbkicepkkcambaa
open Go.RowKit BigFrame
set_option linter.unusedVariables false
set_option linter.unusedSimpArgs false

theorem sum_step (a j x q : Nat) (hq : a % 4294967296 = q) (hx : x < 256) (hm : (j + 1) * x ≤ 1275000) : (((q : Int) + ((j : Int) + 1) * (x : Int) % 4294967296) % 4294967296) = (((a + (j + 1) * x) % 4294967296 : Nat) : Int) := by
  have e : ((j : Int) + 1) * (x : Int) = (((j + 1) * x : Nat) : Int) := by simp
  rw [e]
  generalize (j + 1) * x = y at *
  omega

set_option maxRecDepth 100000 in
set_option maxHeartbeats 2000000 in
theorem formed_any (k : Nat) (A : Option Addr) (n c : Nat) (p : Bytes) (w : World) (h : Bys w w.heap.size A n p) (hk : k < 4294967296) (hn : n ≤ 4096) :
    Calls Try.prog 35 #[.int .i64 k, .slice A n c] w fun e w' => ∃ A' c', e = .returned (.slice A' (n + 10) c') ∧ w'.ownsRow w.heap.size 5 1 (.slice A' (n + 10) c') (n + 10) (bys (formed k p)) ∧ Below w.heap.size w w' := by
  have e1 : Enters_ Try.prog 42 := enters_ Try.func42 (by kernel_rfl) rfl
  have he' := e1.out
  have hlen := h.len
  have HP := Lib.hid h
  have KP : ∀ (l : Bytes) (q m : Nat) (W : World), OutBox W w.heap.size w.heap.size l → w.heap.size ≤ W.heap.size → q < 4294967296 → m ≤ 8 → l.length ≤ 1000000 → Hid (Calls Try.prog 42 #[.int .u32 q, .int .i64 m, .pointer (some ⟨w.heap.size, 0, none⟩)] W fun e w' => (∃ v, e = .returned v) ∧ OutBox w' w.heap.size w.heap.size (l ++ le q m) ∧ Below w.heap.size W w') :=
    fun l q m W h1 h2 h3 h4 h5 => put_any w.heap.size w.heap.size w.heap.size l q m W h1 (Nat.le_refl _) (Nat.le_refl _) h2 h3 h4 h5
  have ek : (k : Int) % 4294967296 = k := by omega
  have en : (n : Int) % 4294967296 = n := by omega
  clear h e1
  go_enter Try.func35, Try.ntmps35
  go_wp2_with fail
  refine (KP [] k 4 _ (outbox_start w) (by simp) hk (by omega) (by simp)).out.mono ?_
  rintro e w1 ⟨⟨v1, rfl⟩, ho1, hb1⟩
  have hB1 : Below w.heap.size w w1 := (show Below w.heap.size w _ by go_grown).trans hb1
  have hs1 : w.heap.size ≤ w1.heap.size := hB1.size
  clear hb1 ek
  go_wp2_with fail
  refine (KP _ n 2 _ ho1 hs1 (by omega) (by omega) (by simp [le_length])).out.mono ?_
  rintro e w2 ⟨⟨v2, rfl⟩, ho2, hb2⟩
  have hB2 : Below w.heap.size w w2 := hB1.trans hb2
  have hs2 : w.heap.size ≤ w2.heap.size := hB2.size
  clear hb2 en ho1 hB1
  rw [List.nil_append] at ho2
  have hm6 : (le k 4 ++ le n 2).length = 6 := by simp [le_length]
  have hhd : (le k 4 ++ le n 2) ++ p = headOf k p := by unfold headOf; rw [hlen]
  generalize le k 4 ++ le n 2 = m at *
  obtain ⟨A2, c2, hx2, ho2⟩ := ho2
  rw [hm6] at hx2 ho2
  have c0 : w2.cell? ⟨w.heap.size, 0, none⟩ = some (.slice A2 6 c2) := cell_of_row _ _ 0 _ _ _ hx2
  have f0 := frozen_of_row _ _ 0 _ _ hx2
  have bl := row_lt hx2
  have HX := Lib.hid hx2
  have HM := Lib.hid hm6
  have HHD := Lib.hid hhd
  have HLEN := Lib.hid hlen
  clear hx2 hm6 hhd hlen
  go_wp2_with (at_builtin; go_must (refine elemByte.list_append rfl (.tmp 20) (.tmp 21) rfl rfl ho2 rfl ((HP.out.to hB2).reads) (bys_one _) (by unfold maxLen; omega) (by omega) hs2 ?_; intro v3 w3 hown3 hg3 hat3; obtain ⟨A3, c3, hv3, _⟩ := own_shape hown3; subst hv3; change w2.grownBy w3 (Value.slice A2 6 c2).ownBlock at hg3; have hx3 := box_kept0 HX.out ho2 hg3; have c1 := cell_of_row _ _ 0 _ _ _ hx3; have f1 := frozen_of_row _ _ 0 _ _ hx3; simp at c1; have hB3 : Below w.heap.size w w3 := Below.grown hB2 hg3 hs2 (fun k hk => (ho2.lt k hk).1); have bl3 := row_lt hx3))
  have hO4 : OutBox (w3.setCell ⟨w.heap.size, 0, none⟩ (.slice A3 (6 + n) c3)) w.heap.size w.heap.size (m ++ p) := by
    have := OutBox.put (l := m) (m := p) (A' := A3) (c' := c3) hx3 (by rw [HM.out, HLEN.out]; exact hown3)
    rw [HM.out, HLEN.out] at this
    exact this
  have hown4 : (w3.setCell ⟨w.heap.size, 0, none⟩ (.slice A3 (6 + n) c3)).ownsRow w.heap.size 5 1 (.slice A3 (6 + n) c3) (6 + n) (bys (headOf k p)) := by
    rw [← HHD.out, bys_append]
    rw [← bys_append] at hown3 ⊢
    exact own_set hown3 (fun k hk e => box_ne hx3 hown3 (by rw [hk, e])) _
  have hB4 : Below w.heap.size w (w3.setCell ⟨w.heap.size, 0, none⟩ (.slice A3 (6 + n) c3)) := hB3.setCell (Nat.le_refl _) _
  rw [HHD.out] at hO4
  generalize World.setCell w3 _ _ = w4 at *
  have hhl : (headOf k p).length = n + 6 := by rw [headOf_length, HLEN.out]
  have hck : check (headOf k p) = csum 0 ((headOf k p).take (6 + n)) % 4294967296 := by unfold check; rw [List.take_of_length_le (by omega)]
  have HCK := Lib.hid hck
  have HHL := Lib.hid hhl
  have HF : formed k p = headOf k p ++ le (check (headOf k p)) 4 := rfl
  have HFF := Lib.hid HF
  have hst := fun (j : Nat) (x : UInt8) (hx : (headOf k p)[j]? = some x) => Lib.hid (csum_take hx)
  generalize headOf k p = hd at *
  obtain ⟨g, rfl, _, hgl⟩ := own_some hown4 (by omega)
  have HO := Lib.hid hown4
  clear hck hhl HF hx3 hown3 hg3 hat3 c1 f1 c0 f0 hown4 HHD
  go_loop [7, 25] (fun s i => ∃ j : Nat, j ≤ 6 + n ∧ i = .int .i64 j ∧ s = .int .u32 ((csum 0 (hd.take j) % 4294967296 : Nat) : Int)) (fun _ i => 6 + n - (intOf i).toNat)
  case atStart => exact ⟨0, Nat.zero_le _, rfl, by simp [csum]⟩
  case round =>
    obtain ⟨j, hj, rfl, rfl⟩ := hrel
    by_cases hlt : j < 6 + n
    · obtain ⟨x, hx⟩ : ∃ x, hd[j]? = some x := by have := HHL.out; exact ⟨_, List.getElem?_eq_getElem (by omega)⟩
      have cx : w4.cell? ⟨g, j, none⟩ = some (.int .u8 (x.toNat : Int)) := (HO.out.cellAt j (by omega)).trans (by rw [bys_get, hx]; rfl)
      have hs := hst j x hx
      have hxb := x.toNat_lt
      have hmul : (j + 1) * x.toNat ≤ 5000 * 255 := Nat.mul_le_mul (by omega) (by omega)
      generalize hc : csum 0 (hd.take j) % 4294967296 = q at *
      have hq : q < 4294967296 := by omega
      have HC := Lib.hid hc
      clear hx hst hc
      have HXB := Lib.hid hxb
      have HMUL := Lib.hid hmul
      clear hmul
      go_wp2
      go_round
      case rel =>
        refine ⟨j + 1, by omega, by go_num, ?_⟩
        rw [hs.out, sum_step _ _ _ _ HC.out HXB.out (by have := HMUL.out; omega)]
      case measure => simp [intOf]; omega
    · obtain rfl : j = 6 + n := by omega
      clear hst
      have ecs : ((csum 0 (hd.take (6 + n)) : Nat) : Int) % 4294967296 = ((check hd : Nat) : Int) := by rw [HCK.out]; rfl
      have hcl := check_lt hd
      have HECS := Lib.hid ecs
      clear ecs
      go_wp2_with fail
      rw [HECS.out]
      refine (KP _ (check hd) 4 _ hO4 hB4.size hcl (by omega) (by have := HHL.out; omega)).out.mono ?_
      rintro e w5 ⟨⟨v5, rfl⟩, ⟨A5, c5, hx5, ho5⟩, hb5⟩
      have hB5 := hB4.trans hb5
      have hl5 : (hd ++ le (check hd) 4).length = n + 10 := by rw [List.length_append, HHL.out, le_length]
      rw [hl5] at hx5 ho5
      rw [← HFF.out] at ho5
      have c5' : w5.cell? ⟨w.heap.size, 0, none⟩ = some (.slice A5 (n + 10) c5) := cell_of_row _ _ 0 _ _ _ hx5
      have HO5 := Lib.hid ho5
      clear hx5 ho5 hl5 HO
      go_wp2
      go_ret
      exact ⟨A5, c5, rfl, HO5.out, hB5⟩
end Go.Proofs.Ytbkicepkkcambaa
