/- left, bytes.Equal, and next: the record at the reader's place. -/
import Derived.Test.YtbkicepkkcambaaJouD
import Derived.Deep.CutRange
namespace Go.Proofs.Ytbkicepkkcambaa
open Go.RowKit BigFrame
set_option linter.unusedVariables false
set_option linter.unusedSimpArgs false

set_option maxRecDepth 100000 in
set_option maxHeartbeats 1000000 in
theorem left_any (R : Nat) (A : Option Addr) (n c at_ : Nat) (w : World) (hR : R < w.heap.size) (h0 : w.cell? ⟨R, 0, none⟩ = some (.slice A n c)) (h1 : w.cell? ⟨R, 1, none⟩ = some (.int .i64 at_)) (hn : n ≤ 9223372036854775807) (ha : at_ ≤ 9223372036854775807) :
    Calls Try.prog 47 #[.pointer (some ⟨R, 0, none⟩)] w fun e w' => e = .returned (.int .i64 ((n : Int) - at_)) ∧ Below w.heap.size w w' := by
  have F0 := fun p : Later w => p.cell (by exact hR) h0
  have F1 := fun p : Later w => p.cell (by exact hR) h1
  go_enter Try.func47, Try.ntmps47
  go_wp2
  clear h0 h1
  (refine wp_region_later (by kernel_rfl) (by kernel_rfl) ?_; (repeat (first | go_big_quiet_step ((fail)) | quiet_step ((fail)))); refine wpQuiet_nil ?_; intro _ hw1; obtain ⟨pq, hw2⟩ := hw1; subst hw2)
  clear F0 F1
  go_wp2
  go_ret
  exact ⟨rfl, pq.ok⟩

set_option maxHeartbeats 1000000 in
theorem equal_any (A A' : Option Addr) (n c n' c' : Nat) (a b : Bytes) (w : World) (ha : Bys w w.heap.size A n a) (hb : Bys w w.heap.size A' n' b) :
    Calls Try.prog 48 #[.slice A n c, .slice A' n' c'] w fun e w' => e = .returned (.bool (a == b)) ∧ w = w' := by
  have ca := ha.conv (P := Try.prog) 25 5 9 c Try.underlying25 Try.underlying5 Try.underlying9
  have cb := hb.conv (P := Try.prog) 25 5 9 c' Try.underlying25 Try.underlying5 Try.underlying9
  go_enter Try.func48, Try.ntmps48
  go_wp2
  go_ret
  exact ⟨rfl, rfl⟩

theorem or_low (x y : Nat) (hx : x < 256) (hy : y < 256) : bits .or .i64 (x : Int) ((y : Int) * 256) = ((x + 256 * y : Nat) : Int) := by
  have e : ((y : Int) * 256) = ((y * 256 : Nat) : Int) := by simp
  have e1 : (BitVec.ofInt IntKind.i64.bits (x : Int)).toNat = x := by
    rw [BitVec.toNat_ofInt]
    show (((x : Int) % ((2 ^ 64 : Nat) : Int))).toNat = x
    omega
  have e2 : (BitVec.ofInt IntKind.i64.bits ((y * 256 : Nat) : Int)).toNat = y * 256 := by
    rw [BitVec.toNat_ofInt]
    show ((((y * 256 : Nat) : Int) % ((2 ^ 64 : Nat) : Int))).toNat = y * 256
    omega
  rw [e]
  unfold bits
  dsimp only
  rw [BitVec.toNat_or, e1, e2]
  have h := Nat.shiftLeft_add_eq_or_of_lt (b := x) (i := 8) (by omega) y
  rw [Nat.shiftLeft_eq, show (2 : Nat) ^ 8 = 256 from rfl] at h
  rw [Nat.or_comm, ← h]
  rw [IntWalk.i64_in _ (by omega)]
  omega

/-- Where the payload of the record at place i lies. -/
def pay (A : Option Addr) (i : Nat) : Option Addr := A.map fun a => ⟨a.block, a.off + i + 6, none⟩
/-- What next answers, and where it leaves the reader. -/
def NextPost (R : Nat) (A : Option Addr) (n c : Nat) (d : Bytes) (at_ k : Nat) (w : World) (e : Ending) (w' : World) : Prop :=
  match nextR (d.drop at_) k with
  | none => e = .returned (.tuple #[.slice none 0 0, .bool false]) ∧ Below w.heap.size w w'
  | some p => (e = .returned (.tuple #[.slice (pay A at_) p.length (c - at_ - 6), .bool true]) ∧ Bys w R (pay A at_) p.length p) ∧ w.grownBy w' (some R) ∧ w'.heap[R]? = some (.cells #[.slice A n c, .int .i64 ((at_ + (p.length + 10) : Nat) : Int), .int .i64 ((k + 1 : Nat) : Int)] 85 (0, 0))
theorem next_none {R : Nat} {A : Option Addr} {n c : Nat} {d : Bytes} {at_ k : Nat} {w : World} {e : Ending} {w' : World} (h : nextR (d.drop at_) k = none) (he : e = .returned (.tuple #[.slice none 0 0, .bool false])) (hb : Below w.heap.size w w') : NextPost R A n c d at_ k w e w' := by
  unfold NextPost; rw [h]; exact ⟨he, hb⟩

set_option maxRecDepth 100000 in
set_option maxHeartbeats 4000000 in
theorem next_any (R : Nat) (A : Option Addr) (n c : Nat) (d : Bytes) (at_ k : Nat) (w : World) (hr : w.heap[R]? = some (.cells #[.slice A n c, .int .i64 at_, .int .i64 k] 85 (0, 0))) (hd : Bys w R A n d) (hn : n ≤ 100000000000) (hc : n ≤ c) (hc63 : c ≤ 9223372036854775807) (ha : at_ ≤ n) (hk1 : 1 ≤ k) (hk : k ≤ 100000) :
    Calls Try.prog 45 #[.pointer (some ⟨R, 0, none⟩)] w (NextPost R A n c d at_ k w) := by
  have hR := row_lt hr
  have f0 : w.cell? ⟨R, 0, none⟩ = some (.slice A n c) := cell_of_row _ _ 0 _ _ _ hr
  have f1 : w.cell? ⟨R, 1, none⟩ = some (.int .i64 at_) := cell_of_row _ _ 1 _ _ _ hr
  have f2 : w.cell? ⟨R, 2, none⟩ = some (.int .i64 k) := cell_of_row _ _ 2 _ _ _ hr
  have hlen := hd.len
  have hdl : (d.drop at_).length = n - at_ := by rw [List.length_drop, hlen]
  have F := fun W (hW : Below w.heap.size w W) => Lib.hid (held3 hW hR ⟨f0, f1, f2⟩)
  have KL := fun W (hW : Below w.heap.size w W) => Lib.hid (left_any R A n c at_ W (Nat.lt_of_lt_of_le hR hW.size) (held3 hW hR ⟨f0, f1, f2⟩).1 (held3 hW hR ⟨f0, f1, f2⟩).2.1 (by omega) (by omega))
  have HRW := Lib.hid hr
  have HD := Lib.hid hd
  have HLEN := Lib.hid hlen
  have HDL := Lib.hid hdl
  clear hr hd hlen hdl
  by_cases hk6 : 65536 < k
  · have hnone : nextR (d.drop at_) k = none := by unfold nextR; rw [if_pos (.inl hk6)]
    have HN := Lib.hid hnone
    clear hnone F KL
    go_enter Try.func45, Try.ntmps45
    go_wp2_with fail
    go_ret2
    exact next_none HN.out rfl (Below.refl _ _)
  · by_cases hl6 : n - at_ < 6
    · have hnone : nextR (d.drop at_) k = none := by unfold nextR; rw [if_pos (.inr (by rw [HDL.out]; exact hl6))]
      have HN := Lib.hid hnone
      clear hnone F
      go_enter Try.func45, Try.ntmps45
      go_wp2_with fail
      refine (KL _ (Below.refl _ _)).out.mono ?_
      rintro e w1 ⟨rfl, hb1⟩
      clear f0 f1 f2
      have i1 : (n : Int) - (at_ : Int) < 6 := by omega
      go_wp2_with fail
      go_ret2
      exact next_none HN.out rfl hb1
    · obtain ⟨x4, b, o, hx4, rfl, hbR, _⟩ := HD.out.at_ (i := at_ + 4) (by omega)
      obtain ⟨x5, b', o', hx5, hA, _, _⟩ := HD.out.at_ (i := at_ + 5) (by omega)
      injection hA with hA
      injection hA with hA1 hA2
      subst hA1; subst hA2
      have CD := fun W (hW : Below w.heap.size w W) => HD.out.later (Nat.le_of_lt hR) hW
      have CX := fun W (hW : Below w.heap.size w W) => Lib.hid (And.intro ((hW.cell (p := ⟨b, o + (at_ + 4), none⟩) (Nat.lt_trans hbR hR)).trans (by assumption)) ((hW.cell (p := ⟨b, o + (at_ + 5), none⟩) (Nat.lt_trans hbR hR)).trans (by assumption)))
      have hsz : sizeAt (d.drop at_) = x4.toNat + 256 * x5.toNat := by
        unfold sizeAt
        rw [List.getD_eq_getElem?_getD, List.getD_eq_getElem?_getD, List.getElem?_drop, List.getElem?_drop, hx4, hx5]
        rfl
      have b4 := x4.toNat_lt
      have b5 := x5.toNat_lt
      have hor := or_low x4.toNat x5.toNat b4 b5
      obtain ⟨q, hq⟩ : ∃ q, x4.toNat + 256 * x5.toNat = q := ⟨_, rfl⟩
      rw [hq] at hsz hor
      have hq6 : q < 65536 := by omega
      have HOR := Lib.hid hor
      have HSZ := Lib.hid hsz
      clear hq hor
      clear hsz hx4 hx5 CD
      go_enter Try.func45, Try.ntmps45
      go_wp2_with fail
      refine (KL _ (Below.refl _ _)).out.mono ?_
      rintro e w1 ⟨rfl, hb1⟩
      have hbW : Below w.heap.size w w1 := hb1
      have i1 : ¬ (n : Int) - (at_ : Int) < 6 := by omega
      have F0 := fun p : Later w1 => (F _ (after hbW p.ok)).out.1
      have F1 := fun p : Later w1 => (F _ (after hbW p.ok)).out.2.1
      have X4 := fun p : Later w1 => (CX _ (after hbW p.ok)).out.1
      have X5 := fun p : Later w1 => (CX _ (after hbW p.ok)).out.2
      have j1 : IntKind.i64.wrap ((at_ : Int) + 4) = (at_ : Int) + 4 := IntWalk.i64_in _ (by omega)
      have j2 : IntKind.i64.wrap ((at_ : Int) + 5) = (at_ : Int) + 5 := IntWalk.i64_in _ (by omega)
      have j3 : ((at_ : Int) + 4).toNat = at_ + 4 := by omega
      have j4 : ((at_ : Int) + 5).toNat = at_ + 5 := by omega
      have j5 : (0 : Int) ≤ (at_ : Int) + 4 := by omega
      have j6 : (0 : Int) ≤ (at_ : Int) + 5 := by omega
      have j7 : (at_ : Int) + 4 < (n : Int) := by omega
      have j8 : (at_ : Int) + 5 < (n : Int) := by omega
      clear f0 f1 f2 hb1 CX
      go_wp2_with fail
      (refine wp_region_later (by kernel_rfl) (by kernel_rfl) ?_; (repeat (first | go_big_quiet_step ((fail)) | quiet_step ((fail)))); refine wpQuiet_nil ?_; intro _ hw1; obtain ⟨pq, hw2⟩ := hw1; subst hw2)
      clear F0 F1 X4 X5 j1 j2 j3 j4 j5 j6 j7 j8 b4 b5
      have hor := HOR.out
      have hb2 : Below w.heap.size w pq.val := after hbW pq.ok
      generalize pq.val = w2 at *
      by_cases hq4 : 4096 < q
      · have hnone : nextR (d.drop at_) k = none := by unfold nextR; rw [HSZ.out]; rw [if_neg (by rw [HDL.out]; omega), if_pos (.inl hq4)]
        have HN := Lib.hid hnone
        clear hnone KL F
        go_wp2_with fail
        go_ret2
        exact next_none HN.out rfl hb2
      · go_wp2_with fail
        refine (KL _ hb2).out.mono ?_
        rintro e w3 ⟨rfl, hb3⟩
        have hB3 := after hb2 hb3
        clear hb3 KL hor
        by_cases hl10 : n - at_ < q + 10
        · have hnone : nextR (d.drop at_) k = none := by unfold nextR; rw [HSZ.out]; rw [if_neg (by rw [HDL.out]; omega), if_pos (.inr (by rw [HDL.out]; exact hl10))]
          have HN := Lib.hid hnone
          clear hnone F
          have i2 : (n : Int) - (at_ : Int) < (q : Int) + 10 := by omega
          go_wp2_with fail
          go_ret2
          exact next_none HN.out rfl hB3
        · have i2 : ¬ (n : Int) - (at_ : Int) < (q : Int) + 10 := by omega
          have F0 := fun p : Later w3 => (F _ (after hB3 p.ok)).out.1
          have F1 := fun p : Later w3 => (F _ (after hB3 p.ok)).out.2.1
          have j1 : IntKind.i64.wrap ((at_ : Int) + (q : Int)) = (at_ : Int) + q := IntWalk.i64_in _ (by omega)
          have j2 : IntKind.i64.wrap ((at_ : Int) + (q : Int) + 10) = (at_ : Int) + q + 10 := IntWalk.i64_in _ (by omega)
          have j3 : ((at_ : Int) + (q : Int) + 10).toNat = at_ + q + 10 := by omega
          have j5 : (0 : Int) ≤ (at_ : Int) + (q : Int) + 10 := by omega
          have j6 : (at_ : Int) ≤ (at_ : Int) + (q : Int) + 10 := by omega
          have j7 : (at_ : Int) + (q : Int) + 10 ≤ (n : Int) := by omega
          have j8 : (at_ : Int) + (q : Int) + 10 ≤ (c : Int) := by omega
          go_wp2_with fail
          (refine wp_region_later (by kernel_rfl) (by kernel_rfl) ?_; (repeat (first | go_big_quiet_step ((fail)) | quiet_step ((fail)))); refine wpQuiet_nil ?_; intro _ hw1; obtain ⟨pr, hw2⟩ := hw1; subst hw2)
          have hB4 : Below w.heap.size w pr.val := after hB3 pr.ok
          generalize pr.val = w4 at *
          obtain ⟨f0, f1, f2⟩ := (F _ hB4).out
          have e78 : at_ + q + 10 - at_ = q + 10 := by omega
          have e82 : IntKind.i64.wrap (6 + (q : Int)) = 6 + (q : Int) := IntWalk.i64_in _ (by omega)
          have i3 : 10 ≤ c - at_ := by omega
          have i4 : q + 10 ≤ c - at_ := by omega
          clear F0 F1 j1 j2 j3 j5 j6 j7 j8
          have hPw : Bys w R (some ⟨b, o + at_ + 6, none⟩) q (((d.drop at_).drop 6).take q) := by
            have := HD.out.part (i := at_ + 6) (k := q) (by omega)
            rwa [← List.drop_drop, ← Nat.add_assoc] at this
          have hWw : Bys w R (some ⟨b, o + at_, none⟩) (q + 10) ((d.drop at_).take (q + 10)) := HD.out.part (i := at_) (k := q + 10) (by omega)
          have hpl := hPw.len
          obtain ⟨pay, hpay⟩ : ∃ pay, ((d.drop at_).drop 6).take q = pay := ⟨_, rfl⟩
          rw [hpay] at hPw hpl
          have HPAY := Lib.hid hpay
          have KF := Lib.hid (formed_any k (some ⟨b, o + at_ + 6, none⟩) q (c - at_ - 6) pay w4 ((hPw.later (Nat.le_of_lt hR) hB4).more (Nat.le_trans (Nat.le_of_lt hR) hB4.size)) (by omega) (by omega))
          have HPW := Lib.hid hPw
          have HWW := Lib.hid hWw
          have HPL := Lib.hid hpl
          clear hPw hWw hpl hpay
          go_wp2_with fail
          refine KF.out.mono ?_
          rintro e w5 ⟨A5, c5, rfl, ho5, hb5⟩
          have hB5 := after hB4 hb5
          have hF5 : Bys w5 w5.heap.size A5 (q + 10) (formed k pay) := Bys.of_own ho5
          have KE := Lib.hid (equal_any A5 (some ⟨b, o + at_, none⟩) (q + 10) c5 (q + 10) (c - at_) (formed k pay) ((d.drop at_).take (q + 10)) w5 hF5 ((HWW.out.later (Nat.le_of_lt hR) hB5).more (Nat.le_trans (Nat.le_of_lt hR) hB5.size)))
          have hx5 : w5.heap[R]? = _ := (hB5.block R hR).trans HRW.out
          have HX5 := Lib.hid hx5
          clear ho5 hb5 hF5 hx5 f0 f1 f2 KF
          go_wp2_with fail
          refine KE.out.mono ?_
          rintro e w6 ⟨rfl, rfl⟩
          clear KE
          by_cases heq : formed k pay = (d.drop at_).take (q + 10)
          · have hbeq : (formed k pay == (d.drop at_).take (q + 10)) = true := by rw [beq_iff_eq]; exact heq
            have hsome : nextR (d.drop at_) k = some pay := by
              unfold nextR; rw [HSZ.out]; rw [if_neg (by rw [HDL.out]; omega), if_neg (by rw [HDL.out]; omega), HPAY.out, if_pos heq]
            have HN := Lib.hid hsome
            have hlp : pay.length = q := HPL.out
            have HLP := Lib.hid hlp
            have f0 : w5.cell? ⟨R, 0, none⟩ = some (.slice (some ⟨b, o, none⟩) n c) := cell_of_row _ _ 0 _ _ _ HX5.out
            have f1 : w5.cell? ⟨R, 1, none⟩ = some (.int .i64 at_) := cell_of_row _ _ 1 _ _ _ HX5.out
            have f2 : w5.cell? ⟨R, 2, none⟩ = some (.int .i64 k) := cell_of_row _ _ 2 _ _ _ HX5.out
            have g1 := frozen_of_row _ _ 1 _ _ HX5.out
            have g2 := frozen_of_row _ _ 2 _ _ HX5.out
            have hR5 : R < w5.heap.size := row_lt HX5.out
            clear heq hsome hlp F
            go_wp2_with fail
            go_ret2
            unfold NextPost
            rw [HN.out]
            dsimp only
            refine ⟨⟨?_, ?_⟩, grown_trans (grown_trans (grown_of_below hB5) (grown_set _ ⟨R, 1, none⟩ _)) (grown_set _ ⟨R, 2, none⟩ _), (set_row (set_row HX5.out _) _).trans ?_⟩
            · rw [HLP.out]; rfl
            · rw [HLP.out]; exact HPW.out
            · rw [HLP.out]
              simp [Int.natCast_add]
          · have hbeq : (formed k pay == (d.drop at_).take (q + 10)) = false := by rw [beq_eq_false_iff_ne]; exact heq
            have hnone : nextR (d.drop at_) k = none := by
              unfold nextR; rw [HSZ.out]; rw [if_neg (by rw [HDL.out]; omega), if_neg (by rw [HDL.out]; omega), HPAY.out, if_neg heq]
            have HN := Lib.hid hnone
            clear heq hnone F
            go_wp2_with fail
            go_ret2
            exact next_none HN.out rfl hB5
end Go.Proofs.Ytbkicepkkcambaa
