/- Same, usable, the chapter's example. -/
import Derived.Test.YtmaojcjnpblffaaLedJ
namespace Go.Proofs.Ytmaojcjnpblffaa
open Go.RowKit BigFrame

theorem neq_paid (x y : Paid) (w : World) : (binOp .neq 47 x.val y.val).run Try.prog w = .ok (.bool (!(x.day == y.day && x.month == y.month && x.kind == y.kind && x.amount == y.amount))) w := by
  have u3 := Try.underlying3
  have u5 := Try.underlying5
  have hS : Try.prog.underlying 47 = some (.struct (Try.prog.fieldsOf 47)) := by kernel_rfl
  have hp : Try.prog.stoodInHeld 47 = false := by kernel_rfl
  unfold Paid.val
  simp only [binOp, Op.equal, Op.maxDepth]
  simp only [Sem.run_bind]
  rw [show (10000 : Nat) = 9999 + 1 from rfl, run_equalIn_struct w 9999 47 _ _ hS hp]
  simp only [Program.fieldsOf, Try.underlying47]
  go_simp
  by_cases h1 : x.day = y.day <;> by_cases h2 : x.month = y.month <;> by_cases h3 : x.kind = y.kind <;> by_cases h4 : x.amount = y.amount <;> simp [h1, h2, h3, h4]

theorem neq_same (x : Paid) (w : World) : (binOp .neq 47 (.agg #[.int .i64 x.day, .int .i64 x.month, .int .u8 x.kind, .int .i64 x.amount]) (.agg #[.int .i64 x.day, .int .i64 x.month, .int .u8 x.kind, .int .i64 x.amount])).run Try.prog w = .ok (.bool false) w := by
  have := neq_paid x x w
  simpa [Paid.val] using this

set_option maxRecDepth 100000 in
set_option maxHeartbeats 2000000 in
theorem same_true (s : Int) (due : List Int) (posts : List Paid) (A B A' B' : Option Addr) (n c d n' c' d' : Nat) (w : World) (ha : Ints w w.heap.size A n due) (hb : Ints w w.heap.size B n due) (ha' : Posts w w.heap.size A' n' posts) (hb' : Posts w w.heap.size B' n' posts)
    (hn : n ≤ 4000000000) (hn' : n' ≤ 4000000000) :
    Calls Try.prog 14 #[.agg #[.int .i64 s, .slice A n c, .slice A' n' c'], .agg #[.int .i64 s, .slice B n d, .slice B' n' d']] w fun e w' => e = .returned (.bool true) ∧ Below w.heap.size w w' := by
  have HA := Lib.hid ha
  have HB := Lib.hid hb
  have HA' := Lib.hid ha'
  have HB' := Lib.hid hb'
  clear ha hb ha' hb'
  go_enter Try.func14, Try.ntmps14
  go_wp2_with fail
  have hB0 : Below w.heap.size w ((w.alloc (.cells #[.int .i64 s, .slice A n c, .slice A' n' c'] 25)).alloc (.cells #[.int .i64 s, .slice B n d, .slice B' n' d'] 25)) := by go_grown
  have hz0 : w.heap.size + 1 < ((w.alloc (.cells #[.int .i64 s, .slice A n c, .slice A' n' c'] 25)).alloc (.cells #[.int .i64 s, .slice B n d, .slice B' n' d'] 25)).heap.size := by simp
  have f1 : ((w.alloc (.cells #[.int .i64 s, .slice A n c, .slice A' n' c'] 25)).alloc (.cells #[.int .i64 s, .slice B n d, .slice B' n' d'] 25)).cell? ⟨w.heap.size, 1, none⟩ = some (.slice A n c) := by simp [go_sem]
  have f2 : ((w.alloc (.cells #[.int .i64 s, .slice A n c, .slice A' n' c'] 25)).alloc (.cells #[.int .i64 s, .slice B n d, .slice B' n' d'] 25)).cell? ⟨w.heap.size, 2, none⟩ = some (.slice A' n' c') := by simp [go_sem]
  have g1 : ((w.alloc (.cells #[.int .i64 s, .slice A n c, .slice A' n' c'] 25)).alloc (.cells #[.int .i64 s, .slice B n d, .slice B' n' d'] 25)).cell? ⟨w.heap.size + 1, 1, none⟩ = some (.slice B n d) := by simp [go_sem]
  have g2 : ((w.alloc (.cells #[.int .i64 s, .slice A n c, .slice A' n' c'] 25)).alloc (.cells #[.int .i64 s, .slice B n d, .slice B' n' d'] 25)).cell? ⟨w.heap.size + 1, 2, none⟩ = some (.slice B' n' d') := by simp [go_sem]
  generalize ((w.alloc (.cells #[.int .i64 s, .slice A n c, .slice A' n' c'] 25)).alloc (.cells #[.int .i64 s, .slice B n d, .slice B' n' d'] 25)) = W0 at *
  have hz0' : w.heap.size < W0.heap.size := by omega
  have F1 := fun W (hW : Below W0.heap.size W0 W) => Lib.hid ((hW.cell (p := ⟨w.heap.size, 1, none⟩) (by exact hz0')).trans f1)
  have F2 := fun W (hW : Below W0.heap.size W0 W) => Lib.hid ((hW.cell (p := ⟨w.heap.size, 2, none⟩) (by exact hz0')).trans f2)
  have G1 := fun W (hW : Below W0.heap.size W0 W) => Lib.hid ((hW.cell (p := ⟨w.heap.size + 1, 1, none⟩) (by exact hz0)).trans g1)
  have G2 := fun W (hW : Below W0.heap.size W0 W) => Lib.hid ((hW.cell (p := ⟨w.heap.size + 1, 2, none⟩) (by exact hz0)).trans g2)
  clear f2 g1 g2
  go_loopw [33] (fun i wr => ∃ k : Nat, k ≤ n ∧ i = .int .i64 k ∧ Below W0.heap.size W0 wr) (fun i _ => n - (intOf i).toNat)
  case atStart => exact ⟨0, Nat.zero_le _, rfl, Below.refl _ _⟩
  case round =>
    obtain ⟨k, hk, rfl, hb⟩ := hrel
    by_cases hlt : k < n
    · obtain ⟨x, b, o, hx, hAe, hbB, cx⟩ := (HA.out.later (Nat.le_refl _) (after hB0 hb)).at_ hlt
      obtain ⟨y, b2, o2, hy, hBe, hbB2, cy⟩ := (HB.out.later (Nat.le_refl _) (after hB0 hb)).at_ hlt
      obtain rfl : x = y := by rw [hx] at hy; injection hy
      have hs := (after hB0 hb).size
      have E1 : ∀ p : Later wr, p.val.cell? ⟨w.heap.size, 1, none⟩ = some (.slice (some ⟨b, o, none⟩) n c) := fun p => hAe ▸ (F1 _ (after hb p.ok)).out
      have E2 : ∀ p : Later wr, p.val.cell? ⟨w.heap.size + 1, 1, none⟩ = some (.slice (some ⟨b2, o2, none⟩) n d) := fun p => hBe ▸ (G1 _ (after hb p.ok)).out
      have CX : ∀ p : Later wr, p.val.cell? ⟨b, o + k, none⟩ = some (.int .i64 x) := fun p => p.cell (a := ⟨b, o + k, none⟩) (Nat.lt_of_lt_of_le hbB hs) cx
      have CY : ∀ p : Later wr, p.val.cell? ⟨b2, o2 + k, none⟩ = some (.int .i64 x) := fun p => p.cell (a := ⟨b2, o2 + k, none⟩) (Nat.lt_of_lt_of_le hbB2 hs) cy
      have Hb := Lib.hid hb
      have hki : (k : Int) < (n : Int) := by omega
      have hk0 : (0 : Int) ≤ (k : Int) := by omega
      clear hx hy hAe hBe cx cy F1 F2 G1 G2 hb f1
      go_wp2_with fail
      (refine wp_region_later (by kernel_rfl) (by kernel_rfl) ?_; (repeat (first | go_big_quiet_step ((fail)) | quiet_step ((fail)))); refine wpQuiet_nil ?_; intro _ hw1; obtain ⟨pq, hw2⟩ := hw1; subst hw2)
      clear E1 E2 CX CY
      go_wp2
      go_roundw
      case rel => exact ⟨k + 1, by omega, by go_num, after Hb.out pq.ok⟩
      case measure => simp [intOf]; omega
    · have f2 := (F2 _ hb).out
      have Hb := Lib.hid hb
      clear F1 G1 hb f1
      go_wp2_with fail
      obtain ⟨wo, rfl⟩ : ∃ wo : World, wo = wr := ⟨_, rfl⟩
      go_loopw [51] (fun i wr => ∃ k : Nat, k ≤ n' ∧ i = .int .i64 k ∧ Below wo.heap.size wo wr) (fun i _ => n' - (intOf i).toNat)
      case atStart => exact ⟨0, Nat.zero_le _, rfl, Below.refl _ _⟩
      case round =>
        obtain ⟨k', hk', rfl, hb⟩ := hrel
        have hBq : Below W0.heap.size W0 wr := after Hb.out hb
        by_cases hlt' : k' < n'
        · obtain ⟨x, b, o, hx, hAe, hbB, cx0, cx1, cx2, cx3⟩ := (HA'.out.later (Nat.le_refl _) (after hB0 hBq)).at_ hlt'
          obtain ⟨y, b2, o2, hy, hBe, hbB2, cy0, cy1, cy2, cy3⟩ := (HB'.out.later (Nat.le_refl _) (after hB0 hBq)).at_ hlt'
          obtain rfl : x = y := by rw [hx] at hy; injection hy
          have hs := (after hB0 hBq).size
          have E1 : ∀ p : Later wr, p.val.cell? ⟨w.heap.size, 2, none⟩ = some (.slice (some ⟨b, o, none⟩) n' c') := fun p => hAe ▸ (F2 _ (after hBq p.ok)).out
          have E2 : ∀ p : Later wr, p.val.cell? ⟨w.heap.size + 1, 2, none⟩ = some (.slice (some ⟨b2, o2, none⟩) n' d') := fun p => hBe ▸ (G2 _ (after hBq p.ok)).out
          have X0 : ∀ p : Later wr, p.val.cell? ⟨b, o + k' * 4, none⟩ = some (.int .i64 x.day) := fun p => p.cell (Nat.lt_of_lt_of_le hbB hs) cx0
          have X1 : ∀ p : Later wr, p.val.cell? ⟨b, o + k' * 4 + 1, none⟩ = some (.int .i64 x.month) := fun p => p.cell (Nat.lt_of_lt_of_le hbB hs) cx1
          have X2 : ∀ p : Later wr, p.val.cell? ⟨b, o + k' * 4 + 2, none⟩ = some (.int .u8 x.kind) := fun p => p.cell (Nat.lt_of_lt_of_le hbB hs) cx2
          have X3 : ∀ p : Later wr, p.val.cell? ⟨b, o + k' * 4 + 3, none⟩ = some (.int .i64 x.amount) := fun p => p.cell (Nat.lt_of_lt_of_le hbB hs) cx3
          have Y0 : ∀ p : Later wr, p.val.cell? ⟨b2, o2 + k' * 4, none⟩ = some (.int .i64 x.day) := fun p => p.cell (Nat.lt_of_lt_of_le hbB2 hs) cy0
          have Y1 : ∀ p : Later wr, p.val.cell? ⟨b2, o2 + k' * 4 + 1, none⟩ = some (.int .i64 x.month) := fun p => p.cell (Nat.lt_of_lt_of_le hbB2 hs) cy1
          have Y2 : ∀ p : Later wr, p.val.cell? ⟨b2, o2 + k' * 4 + 2, none⟩ = some (.int .u8 x.kind) := fun p => p.cell (Nat.lt_of_lt_of_le hbB2 hs) cy2
          have Y3 : ∀ p : Later wr, p.val.cell? ⟨b2, o2 + k' * 4 + 3, none⟩ = some (.int .i64 x.amount) := fun p => p.cell (Nat.lt_of_lt_of_le hbB2 hs) cy3
          have NE := neq_same x
          have HB2 := Lib.hid hb
          have hki : (k' : Int) < (n' : Int) := by omega
          have hk0 : (0 : Int) ≤ (k' : Int) := by omega
          clear hx hy hAe hBe cx0 cx1 cx2 cx3 cy0 cy1 cy2 cy3 F2 G2 hb
          go_wp2_with fail
          (refine wp_region_later (by kernel_rfl) (by kernel_rfl) ?_; (repeat (first | go_big_quiet_step ((fail)) | quiet_step ((fail)))); refine wpQuiet_nil ?_; intro _ hw1; obtain ⟨pq, hw2⟩ := hw1; subst hw2)
          clear E1 E2 X0 X1 X2 X3 Y0 Y1 Y2 Y3 NE
          go_wp2
          go_roundw
          case rel => exact ⟨k' + 1, by omega, by go_num, after HB2.out pq.ok⟩
          case measure => simp [intOf]; omega
        · clear F2 G2 f2
          go_wp2
          go_ret
          exact ⟨rfl, after hB0 hBq⟩
end Go.Proofs.Ytmaojcjnpblffaa
