/- The reference's Posted, Total and Balance. -/
import Derived.Test.YtmaojcjnpblffaaLedR
namespace Go.Proofs.Ytmaojcjnpblffaa
open Go.RowKit BigFrame
set_option linter.unusedVariables false

set_option maxRecDepth 100000 in
set_option maxHeartbeats 1000000 in
theorem rposted_any (A : Option Addr) (n c : Nat) (A' : Option Addr) (n' c' : Nat) (L : Led) (m : Int) (w : World) (h : LedIn w w.heap.size A n A' n' L) (hv : validB L = true) :
    Calls Try.prog 25 #[.agg #[.int .i64 L.start, .slice A n c, .slice A' n' c'], .int .i64 m] w fun e w' => e = .returned (.int .i64 (postedV L m)) ∧ Below w.heap.size w w' := by
  obtain ⟨_, _, h3, h4, _⟩ := valid_here hv
  have hlen' := h.posts.len
  have n4 : n' ≤ 4000 := by omega
  have HP := Lib.hid h.posts
  have bd := fun k => Lib.hid (sumBy_bound (princ m) 1099511627776 (by omega) (L.posts.take k) fun x hx => princ_bound h4 m x (List.mem_of_mem_take hx))
  have bx := fun x (hx : x ∈ L.posts) => Lib.hid (of_decide_eq_true (h4 x hx))
  have HT : postedV L m = sumBy (princ m) (L.posts.take n') := by unfold postedV; rw [List.take_of_length_le (by omega)]
  have st := fun (k : Nat) (x : Paid) (hx : L.posts[k]? = some x) => Lib.hid (sumBy_take (princ m) hx)
  rw [HT]
  generalize L.start = s at *
  generalize L.posts = l at *
  obtain ⟨hB0, hz0, c0, c1, c2⟩ := (boxed3 w (.int .i64 s) (.slice A n c) (.slice A' n' c') 38)
  clear HT h h3 h4 hv hlen'
  go_enter Try.func25, Try.ntmps25
  go_wp2
  generalize World.alloc w _ = W0 at *
  go_loop [5, 6] (fun t i => ∃ k : Nat, k ≤ n' ∧ i = .int .i64 k ∧ t = .int .i64 (sumBy (princ m) (l.take k))) (fun _ i => n' - (intOf i).toNat)
  case atStart => exact ⟨0, Nat.zero_le _, rfl, by simp [sumBy]⟩
  case round =>
    obtain ⟨k, hk, rfl, rfl⟩ := hrel
    have bdk := (bd k).out
    have hlk : (l.take k).length ≤ k := List.length_take_le _ _
    generalize (l.take k).length = q at bdk hlk
    have b1 : -1099511627776 * 4000 ≤ sumBy (princ m) (l.take k) := by omega
    have b2 : sumBy (princ m) (l.take k) ≤ 1099511627776 * 4000 := by omega
    clear bdk hlk
    by_cases hlt : k < n'
    · obtain ⟨x, b, o, hx, rfl, hbB, x0, x1, x2, x3⟩ := (HP.out.later (Nat.le_refl _) hB0).at_ hlt
      have HS := st k x hx
      have hbx := (bx x (List.mem_of_getElem? hx)).out
      have ax : -1099511627776 ≤ x.amount ∧ x.amount ≤ 1099511627776 := by omega
      obtain ⟨a1, a2⟩ := ax
      have hp : princ m x = if x.month ≠ m ∨ x.kind = 3 then 0 else x.amount := rfl
      clear hx hbx bd bx st
      generalize sumBy (princ m) (l.take k) = y at *
      by_cases hm : x.month = m
      · have t1 : (x.month == m) = true := by rw [beq_iff_eq]; exact hm
        by_cases hk3 : x.kind = 3
        · have t2 : (x.kind == 3) = true := by rw [beq_iff_eq]; exact hk3
          have t3 : (x.kind != 3) = false := by rw [bne_eq_false_iff_eq]; exact hk3
          rw [if_pos (.inr hk3)] at hp
          have HP := Lib.hid hp
          clear hp hm hk3
          go_wp2
          go_round
          case rel => exact ⟨k + 1, by omega, by go_num, by rw [HS.out, HP.out] <;> simp⟩
          case measure => simp [intOf]; omega
        · have t2 : (x.kind == 3) = false := by rw [beq_eq_false_iff_ne]; exact hk3
          have t3 : (x.kind != 3) = true := by rw [bne_iff_ne]; exact hk3
          rw [if_neg (fun h => h.elim (fun h => h hm) hk3)] at hp
          have HP := Lib.hid hp
          have r1 : IntKind.i64.wrap (y + x.amount) = y + x.amount := IntWalk.i64_in _ (by omega)
          clear hp hm hk3
          go_wp2
          go_round
          case rel => exact ⟨k + 1, by omega, by go_num, by rw [HS.out, HP.out] <;> simp⟩
          case measure => simp [intOf]; omega
      · have t1 : (x.month == m) = false := by rw [beq_eq_false_iff_ne]; exact hm
        rw [if_pos (.inl hm)] at hp
        have HP := Lib.hid hp
        clear hp hm
        go_wp2
        go_round
        case rel => exact ⟨k + 1, by omega, by go_num, by rw [HS.out, HP.out] <;> simp⟩
        case measure => simp [intOf]; omega
    · have hkn : k = n' := by omega
      subst hkn
      clear bd bx st
      go_wp2
      go_ret
      exact ⟨rfl, hB0⟩

theorem kindOf_bound {s : Int} {k : Nat} {l : List Paid} (h : ∀ p ∈ l, fitsB s k p = true) (m : Int) : ∀ x ∈ l, -1099511627776 ≤ kindOf m x ∧ kindOf m x ≤ 1099511627776 := by
  intro x hx
  have := of_decide_eq_true (h x hx)
  unfold kindOf
  split <;> omega

set_option maxRecDepth 100000 in
set_option maxHeartbeats 1000000 in
theorem rtotal_any (A : Option Addr) (n c : Nat) (A' : Option Addr) (n' c' : Nat) (L : Led) (m : Int) (w : World) (h : LedIn w w.heap.size A n A' n' L) (hv : validB L = true) :
    Calls Try.prog 26 #[.agg #[.int .i64 L.start, .slice A n c, .slice A' n' c'], .int .u8 m] w fun e w' => e = .returned (.int .i64 (totalV L m)) ∧ Below w.heap.size w w' := by
  obtain ⟨_, _, h3, h4, _⟩ := valid_here hv
  have hlen' := h.posts.len
  have n4 : n' ≤ 4000 := by omega
  have HP := Lib.hid h.posts
  have bd := fun k => Lib.hid (sumBy_bound (kindOf m) 1099511627776 (by omega) (L.posts.take k) fun x hx => kindOf_bound h4 m x (List.mem_of_mem_take hx))
  have bx := fun x (hx : x ∈ L.posts) => Lib.hid (of_decide_eq_true (h4 x hx))
  have HT : totalV L m = sumBy (kindOf m) (L.posts.take n') := by unfold totalV; rw [List.take_of_length_le (by omega)]
  have st := fun (k : Nat) (x : Paid) (hx : L.posts[k]? = some x) => Lib.hid (sumBy_take (kindOf m) hx)
  rw [HT]
  generalize L.start = s at *
  generalize L.posts = l at *
  obtain ⟨hB0, hz0, c0, c1, c2⟩ := (boxed3 w (.int .i64 s) (.slice A n c) (.slice A' n' c') 38)
  clear HT h h3 h4 hv hlen'
  go_enter Try.func26, Try.ntmps26
  go_wp2
  generalize World.alloc w _ = W0 at *
  go_loop [5, 6] (fun t i => ∃ k : Nat, k ≤ n' ∧ i = .int .i64 k ∧ t = .int .i64 (sumBy (kindOf m) (l.take k))) (fun _ i => n' - (intOf i).toNat)
  case atStart => exact ⟨0, Nat.zero_le _, rfl, by simp [sumBy]⟩
  case round =>
    obtain ⟨k, hk, rfl, rfl⟩ := hrel
    have bdk := (bd k).out
    have hlk : (l.take k).length ≤ k := List.length_take_le _ _
    generalize (l.take k).length = q at bdk hlk
    have b1 : -1099511627776 * 4000 ≤ sumBy (kindOf m) (l.take k) := by omega
    have b2 : sumBy (kindOf m) (l.take k) ≤ 1099511627776 * 4000 := by omega
    clear bdk hlk
    by_cases hlt : k < n'
    · obtain ⟨x, b, o, hx, rfl, hbB, x0, x1, x2, x3⟩ := (HP.out.later (Nat.le_refl _) hB0).at_ hlt
      have HS := st k x hx
      have hbx := (bx x (List.mem_of_getElem? hx)).out
      have ax : -1099511627776 ≤ x.amount ∧ x.amount ≤ 1099511627776 := by omega
      obtain ⟨a1, a2⟩ := ax
      have hp : kindOf m x = if x.kind = m then x.amount else 0 := rfl
      clear hx hbx bd bx st
      generalize sumBy (kindOf m) (l.take k) = y at *
      by_cases hm : x.kind = m
      · have t1 : (x.kind == m) = true := by rw [beq_iff_eq]; exact hm
        rw [if_pos hm] at hp
        have HP := Lib.hid hp
        have r1 : IntKind.i64.wrap (y + x.amount) = y + x.amount := IntWalk.i64_in _ (by omega)
        clear hp hm
        go_wp2
        go_round
        case rel => exact ⟨k + 1, by omega, by go_num, by rw [HS.out, HP.out] <;> simp⟩
        case measure => simp [intOf]; omega
      · have t1 : (x.kind == m) = false := by rw [beq_eq_false_iff_ne]; exact hm
        rw [if_neg hm] at hp
        have HP := Lib.hid hp
        clear hp hm
        go_wp2
        go_round
        case rel => exact ⟨k + 1, by omega, by go_num, by rw [HS.out, HP.out] <;> simp⟩
        case measure => simp [intOf]; omega
    · have hkn : k = n' := by omega
      subst hkn
      clear bd bx st
      go_wp2
      go_ret
      exact ⟨rfl, hB0⟩

set_option maxRecDepth 100000 in
set_option maxHeartbeats 2000000 in
theorem rbalance_any (A : Option Addr) (n c : Nat) (A' : Option Addr) (n' c' : Nat) (L : Led) (m : Int) (w : World) (h : LedIn w w.heap.size A n A' n' L) (hv : validB L = true) :
    Calls Try.prog 27 #[.agg #[.int .i64 L.start, .slice A n c, .slice A' n' c'], .int .i64 m] w fun e w' => e = .returned (.int .i64 (balanceV L m)) ∧ Below w.heap.size w w' := by
  obtain ⟨⟨s0, s1, s2⟩, hdue, _⟩ := valid_here hv
  have hlen := h.due.len
  have n12 : n ≤ 1200 := by omega
  have KP := fun (k : Nat) (W : World) (hW : Below w.heap.size w W) => Lib.hid (rposted_any A n c A' n' c' L (L.start + k) W (h.to hW) hv)
  have PB := fun (k : Nat) => Lib.hid (posted_bd hv (L.start + k))
  have BD := fun (k : Nat) (hk : k ≤ n) => Lib.hid (balTo_bd hv m k (by omega))
  have DB := fun (x : Int) (hx : x ∈ L.due) => hdue x hx
  have HD := fun W (hW : Below w.heap.size w W) => Lib.hid (h.to hW).due
  have ST : ∀ (k : Nat) (x : Int), L.due[k]? = some x → Hid (balTo L m (k + 1) = balTo L m k + (if L.start + k < m then x - postedV L (L.start + k) else 0)) := fun k x hx => Lib.hid (by rw [balTo, List.getD_eq_getElem?_getD, hx]; rfl)
  have HV : balanceV L m = balTo L m n := by unfold balanceV; rw [hlen]
  rw [HV]
  obtain ⟨hB0, hz0, hc0⟩ := (boxed3 w (.int .i64 L.start) (.slice A n c) (.slice A' n' c') 38)
  have F := fun W (hW : Below (w.alloc (.cells #[.int .i64 L.start, .slice A n c, .slice A' n' c'] 38)).heap.size (w.alloc (.cells #[.int .i64 L.start, .slice A n c, .slice A' n' c'] 38)) W) => Lib.hid (held3 hW hz0 hc0)
  clear HV h hc0 hdue hlen
  go_enter Try.func27, Try.ntmps27
  go_wp2
  generalize World.alloc w _ = W0 at *
  go_loopw [5, 6] (fun t i wr => ∃ k : Nat, k ≤ n ∧ i = .int .i64 k ∧ t = .int .i64 (balTo L m k) ∧ Below W0.heap.size W0 wr) (fun _ i _ => n - (intOf i).toNat)
  case atStart => exact ⟨0, Nat.zero_le _, rfl, rfl, Below.refl _ _⟩
  case round =>
    obtain ⟨k, hk, rfl, rfl, hb⟩ := hrel
    obtain ⟨f0, f1, f2⟩ := (F _ hb).out
    by_cases hlt : k < n
    · obtain ⟨x, b, o, hx, rfl, hbB, cx⟩ := (HD _ (after hB0 hb)).out.at_ hlt
      have hst := ST k x hx
      have hbd := (BD k hk).out
      have hpb := (PB k).out
      have hdb := DB x (List.mem_of_getElem? hx)
      have hbr := after hB0 hb
      have hsz := hbr.size
      have KPk := fun W (hW : Below wr.heap.size wr W) => KP k W (after hbr hW)
      have F0 := fun p : Later wr => (F _ (after hb p.ok)).out.1
      have F1 := fun p : Later wr => (F _ (after hb p.ok)).out.2.1
      have F2 := fun p : Later wr => (F _ (after hb p.ok)).out.2.2
      have CX : ∀ p : Later wr, p.val.cell? ⟨b, o + k, none⟩ = some (.int .i64 x) := fun p => p.cell (a := ⟨b, o + k, none⟩) hbB cx
      have Hb := Lib.hid hb
      have hki : (k : Int) < (n : Int) := by omega
      have hk0 : (0 : Int) ≤ (k : Int) := by omega
      generalize balTo L m k = t at *
      generalize postedV L (L.start + k) = q at *
      have t1 : -5278975227278131200 ≤ t := by omega
      have t2 : t ≤ 5278975227278131200 := by omega
      have q1 : -4398046511104000 ≤ q := hpb.1
      have q2 : q ≤ 4398046511104000 := hpb.2
      have x1 := hdb.1
      have x2 := hdb.2
      clear hx hbd hpb hdb F KP PB BD DB HD ST hb hbr
      by_cases hcm : L.start + (k : Int) < m
      · have ew : IntKind.i64.wrap (L.start + (k : Int)) = L.start + k := IntWalk.i64_in _ (by omega)
        have ew2 : IntKind.i64.wrap (t + x) = t + x := IntWalk.i64_in _ (by omega)
        have ew3 : IntKind.i64.wrap (t + x - q) = t + x - q := IntWalk.i64_in _ (by omega)
        have HC := Lib.hid hcm
        go_wp2_with fail
        clear f0 f1 f2 cx
        (refine wp_region_later (by kernel_rfl) (by kernel_rfl) ?_; (repeat (first | go_big_quiet_step ((go_at_call 25; exact Calls.later _ (KPk _ (Later.ok _)).out)) | quiet_step ((go_at_call 25; exact Calls.later _ (KPk _ (Later.ok _)).out)))); refine wpQuiet_nil ?_; intro _ hw1; obtain ⟨pq, hw2⟩ := hw1; subst hw2)
        clear F0 F1 F2 CX KPk ew ew2 ew3
        go_wp2
        go_roundw
        case rel => exact ⟨k + 1, by omega, by go_num, by rw [hst.out, if_pos HC.out]; go_num, after Hb.out pq.ok⟩
        case measure => simp [intOf]; omega
      · have HC := Lib.hid hcm
        clear F0 F1 F2 CX KPk
        go_wp2
        go_roundw
        case rel => exact ⟨k + 1, by omega, by go_num, by rw [hst.out, if_neg HC.out]; go_num, Hb.out⟩
        case measure => simp [intOf]; omega
    · have hkn : k = n := by omega
      subst hkn
      have hbr := after hB0 hb
      clear F KP PB BD DB HD ST
      go_wp2
      go_ret
      exact ⟨rfl, hbr⟩
end Go.Proofs.Ytmaojcjnpblffaa
