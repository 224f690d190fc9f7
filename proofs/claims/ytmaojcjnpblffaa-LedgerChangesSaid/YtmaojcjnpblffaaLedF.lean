/- Balance, Total. -/
import Derived.Test.YtmaojcjnpblffaaLedE
namespace Go.Proofs.Ytmaojcjnpblffaa
open Go.RowKit BigFrame

def balTo (L : Led) (b : Int) : Nat → Int
  | 0 => 0
  | k + 1 => balTo L b k + (if L.start + k < b then L.due.getD k 0 - postedV L (L.start + k) else 0)
def balanceV (L : Led) (b : Int) : Int := balTo L b L.due.length
def balanceR (L : Led) (b : Int) : Int × Int := if validB L = false then (0, 2) else (balanceV L b, 0)
def kindOf (k : Int) (p : Paid) : Int := if p.kind = k then p.amount else 0
def totalV (L : Led) (k : Int) : Int := sumBy (kindOf k) L.posts
def totalR (L : Led) (k : Int) : Int × Int := if validB L = false ∨ k < 1 ∨ 6 < k then (0, 2) else (totalV L k, 0)

theorem balTo_bd {L : Led} (hv : validB L = true) (b : Int) : ∀ k : Nat, k ≤ L.due.length → -(4399146022731776 * (k : Int)) ≤ balTo L b k ∧ balTo L b k ≤ 4399146022731776 * (k : Int)
  | 0, _ => by simp [balTo]
  | k + 1, h => by
    have ih := balTo_bd hv b k (by omega)
    have hp := posted_bd hv (L.start + k)
    obtain ⟨_, hdue, _⟩ := valid_here hv
    have hd := hdue (L.due.getD k 0) (by rw [List.getD_eq_getElem?_getD, List.getElem?_eq_getElem (by omega)]; exact List.getElem_mem _)
    simp only [balTo]
    split <;> omega

set_option maxHeartbeats 2000000 in
theorem balance_any (A : Option Addr) (n c : Nat) (A' : Option Addr) (n' c' : Nat) (L : Led) (m : Int) (w : World) (h : LedIn w w.heap.size A n A' n' L) (hm : -9223372036854775808 ≤ m ∧ m ≤ 9223372036854775807) :
    Calls Try.prog 17 #[.agg #[.int .i64 L.start, .slice A n c, .slice A' n' c'], .int .i64 m] w fun e w' =>
      e = .returned (.tuple #[.int .i64 (balanceR L m).1, .int .i64 (balanceR L m).2]) ∧ Below w.heap.size w w' := by
  have KV := fun W hW => Lib.hid (valid_any A n c A' n' c' L W (h.to (w' := W) hW))
  have hlen := h.due.len
  cases hv : validB L
  · have hr : balanceR L m = (0, 2) := by unfold balanceR; rw [if_pos hv]
    rw [hr]
    clear hr h hlen
    go_enter Try.func17, Try.ntmps17
    go_wp2_with fail
    refine (KV _ (by go_grown)).out.mono ?_
    rintro e w1 ⟨rfl, hb1⟩
    have hB1 : Below w.heap.size w w1 := after (by go_grown) hb1
    clear KV hb1
    go_wp2
    go_ret2
    exact ⟨rfl, hB1⟩
  · have hr : balanceR L m = (balanceV L m, 0) := by unfold balanceR; rw [if_neg (by simp [hv])]
    rw [hr]
    obtain ⟨⟨s0, s1, s2⟩, hdue, h3, h4, _⟩ := valid_here hv
    have KS : ∀ (m : Int) W b, Below w.heap.size w W → b < W.heap.size → W.cell? ⟨b, 0, none⟩ = some (.int .i64 m) →
        Hid (Calls Try.prog 39 #[.slice A' n' c', .func (.func 53) #[] #[.pointer (some ⟨b, 0, none⟩)]] W fun e w' => e = .returned (.int .i64 (postedV L m)) ∧ Below W.heap.size W w') := by
      intro m W b hW hb hc
      exact sum_princ m A' n' c' L.posts L.start L.due.length b W ((h.to hW).posts) (by rw [← h.posts.len]; exact h3) h4 hc hb
    have hmem : ∀ k d, L.due[k]? = some d → Hid (L.due.getD k 0 = d ∧ 0 ≤ d ∧ d ≤ 1099511627776) := fun k d hk => ⟨by rw [List.getD_eq_getElem?_getD, hk]; rfl, hdue d (List.mem_of_getElem? hk)⟩
    have BD := fun k hk => Lib.hid (balTo_bd hv m k hk)
    have PB := fun q => Lib.hid (posted_bd hv q)
    clear hr hdue h3 h4
    have HL := Lib.hid h
    have Hlen := Lib.hid hlen
    have hn : n ≤ 1200 := by omega
    have hs : L.start ≤ 2400 := by omega
    have HST : Hid (∀ k : Nat, balTo L m (k + 1) = balTo L m k + (if L.start + k < m then L.due.getD k 0 - postedV L (L.start + k) else 0)) := fun k => rfl
    clear h hlen s1 s2
    go_enter Try.func17, Try.ntmps17
    go_wp2_with fail
    refine (KV _ (by go_grown)).out.mono ?_
    rintro e w1 ⟨rfl, hb1⟩
    have hB1 : Below w.heap.size w w1 := after (by go_grown) hb1
    obtain ⟨hc1, _⟩ := bcell hb1
    have hs1 := hb1.size
    simp at hs1
    have q0 : w1.cell? ⟨w.heap.size, 0, none⟩ = some (.int .i64 L.start) := by rw [hc1 _ _ (by simp)]; simp [go_sem]
    have q1 : w1.cell? ⟨w.heap.size, 1, none⟩ = some (.slice A n c) := by rw [hc1 _ _ (by simp)]; simp [go_sem]
    have q2 : w1.cell? ⟨w.heap.size, 2, none⟩ = some (.slice A' n' c') := by rw [hc1 _ _ (by simp)]; simp [go_sem]
    clear KV hc1 hb1
    go_wp2_with fail
    go_loopw [6, 15] (fun t i wr => ∃ k : Nat, k ≤ n ∧ i = .int .i64 k ∧ Below w1.heap.size w1 wr ∧ t = .int .i64 (balTo L m k)) (fun _ i _ => n - (intOf i).toNat)
    case atStart => exact ⟨0, Nat.zero_le _, rfl, Below.refl _ _, rfl⟩
    case round =>
      obtain ⟨k, hk, rfl, hb, rfl⟩ := hrel
      have hBr : Below w.heap.size w wr := after hB1 hb
      by_cases hlt : k < n
      · obtain ⟨d, b, o, hd, rfl, hbB, c0⟩ := (HL.out.to hBr).due.at_ hlt
        obtain ⟨hg, d0, d1⟩ := (hmem _ _ hd).out
        have ht := (BD k (by rw [Hlen.out]; omega)).out
        have hp := (PB (L.start + k)).out
        have e0 : wr.cell? ⟨w.heap.size, 0, none⟩ = some (.int .i64 L.start) := (hb.cell (by exact hs1)).trans q0
        have e2 : wr.cell? ⟨w.heap.size, 2, none⟩ = some (.slice A' n' c') := (hb.cell (by exact hs1)).trans q2
        have hlt2 : w.heap.size < wr.heap.size := Nat.lt_of_lt_of_le hs1 hb.size
        have hne2 : ¬ w.heap.size = wr.heap.size := by omega
        have hsn := HST.out k
        rw [hg] at hsn
        have KS' := fun W b => KS (L.start + k) W b
        generalize balTo L m k = t at *
        generalize postedV L (L.start + k) = q at *
        have HSN := Lib.hid hsn
        have Hb := Lib.hid hb
        have t1 : -5278975227278131200 ≤ t := by omega
        have t2 : t ≤ 5278975227278131200 := by omega
        clear hsn hg hd KS hmem BD PB HST q0 q1 q2 hb
        by_cases hcm : L.start + k < m
        · have ew : IntKind.i64.wrap (L.start + (k : Int)) = L.start + k := IntWalk.i64_in _ (by omega)
          have ew2 : IntKind.i64.wrap (d - q) = d - q := IntWalk.i64_in _ (by omega)
          have ew3 : IntKind.i64.wrap (t + (d - q)) = t + (d - q) := IntWalk.i64_in _ (by omega)
          go_wp2_with fail
          go_region_with (first | (go_at_call 40; refine (principal_any _ _).mono ?_; rintro e w3 ⟨rfl, rfl⟩) | (go_at_call 39; refine (KS' _ _ (by go_grown) (by simp) (by simp [go_sem])).out.mono ?_; rintro e w4 ⟨rfl, hb4⟩; have hB4 := after (show Below wr.heap.size wr _ by go_grown) hb4))
          all_goals
            clear KS' ew ew2 ew3
            go_wp2
            go_roundw
            case rel => exact ⟨k + 1, by omega, by go_num, after Hb.out hB4, by rw [HSN.out, if_pos hcm]⟩
            case measure => simp [intOf]; omega
        · clear KS'
          go_wp2_with fail
          go_roundw
          case rel => exact ⟨k + 1, by omega, by go_num, Hb.out, by rw [HSN.out, if_neg hcm]; go_num⟩
          case measure => simp [intOf]; omega
      · clear KS hmem BD PB HST q0 q1 q2
        go_wp2
        go_ret2
        refine ⟨ret_val ?_, hBr⟩
        have : k = L.due.length := by rw [Hlen.out]; omega
        subst this
        rfl

set_option maxHeartbeats 400000 in
theorem kind_call (k : Int) (b : Nat) (p : Paid) (w : World) (hm : w.cell? ⟨b, 0, none⟩ = some (.int .u8 k)) (hb : b < w.heap.size) :
    Calls Try.prog 42 #[p.val, .pointer (some ⟨b, 0, none⟩)] w fun e w' => e = .returned (.int .i64 (kindOf k p)) ∧ Below w.heap.size w w' := by
  obtain ⟨day, month, kind, amount⟩ := p
  unfold Paid.val
  go_enter Try.func42, Try.ntmps42
  go_wp2
  all_goals
    go_ret
    refine ⟨ret_int ?_, by go_grown⟩
    try simp only [beq_iff_eq, beq_eq_false_iff_ne, ne_eq] at *
    unfold kindOf
    dsimp only
    first | rw [if_pos (by omega)] | rw [if_neg (by omega)]

set_option maxHeartbeats 1000000 in
theorem total_any (A : Option Addr) (n c : Nat) (A' : Option Addr) (n' c' : Nat) (L : Led) (k : Int) (w : World) (h : LedIn w w.heap.size A n A' n' L) (hk : 0 ≤ k ∧ k ≤ 255) :
    Calls Try.prog 22 #[.agg #[.int .i64 L.start, .slice A n c, .slice A' n' c'], .int .u8 k] w fun e w' =>
      e = .returned (.tuple #[.int .i64 (totalR L k).1, .int .i64 (totalR L k).2]) ∧ Below w.heap.size w w' := by
  have KV := fun W hW => Lib.hid (valid_any A n c A' n' c' L W (h.to (w' := W) hW))
  cases hv : validB L
  · have hr : totalR L k = (0, 2) := by unfold totalR; rw [if_pos (.inl hv)]
    rw [hr]
    clear hr h
    go_enter Try.func22, Try.ntmps22
    go_wp2_with fail
    refine (KV _ (by go_grown)).out.mono ?_
    rintro e w1 ⟨rfl, hb1⟩
    have hB1 : Below w.heap.size w w1 := after (by go_grown) hb1
    clear KV hb1
    go_wp2
    go_ret2
    exact ⟨rfl, hB1⟩
  · obtain ⟨_, _, h3, h4, _⟩ := valid_here hv
    have KS : ∀ W b, Below w.heap.size w W → b < W.heap.size → W.cell? ⟨b, 0, none⟩ = some (.int .u8 k) →
        Hid (Calls Try.prog 39 #[.slice A' n' c', .func (.func 42) #[] #[.pointer (some ⟨b, 0, none⟩)]] W fun e w' => e = .returned (.int .i64 (totalV L k)) ∧ Below W.heap.size W w') := by
      intro W b hW hb hc
      refine sum_paid _ _ A' n' c' L.posts (kindOf k) W (enters_ Try.func42 (by kernel_rfl) rfl) ((h.to hW).posts) (by have := h.posts.len; omega) (fun x hx => ?_) fun x W' _ hW' => ?_
      · have := of_decide_eq_true (h4 x hx)
        unfold kindOf
        split <;> omega
      · obtain ⟨hcc, _⟩ := bcell hW'
        exact kind_call k b x W' (by rw [hcc _ _ hb]; exact hc) (Nat.lt_of_lt_of_le hb hW'.size)
    by_cases hkk : k < 1 ∨ 6 < k
    · have hr : totalR L k = (0, 2) := by unfold totalR; rw [if_pos (.inr hkk)]
      rw [hr]
      clear hr h KS h3 h4
      rcases hkk with hkk | hkk
      all_goals
        go_enter Try.func22, Try.ntmps22
        go_wp2_with fail
        refine (KV _ (by go_grown)).out.mono ?_
        rintro e w1 ⟨rfl, hb1⟩
        have hB1 : Below w.heap.size w w1 := after (by go_grown) hb1
        obtain ⟨hc1, _⟩ := bcell hb1
        clear KV hb1
        go_wp2
        go_ret2
        exact ⟨rfl, hB1⟩
    · have hr : totalR L k = (totalV L k, 0) := by unfold totalR; rw [if_neg (by rw [hv]; simp only [Bool.true_eq_false, false_or]; exact hkk)]
      rw [hr]
      have k1 : 1 ≤ k := by omega
      have k2 : k ≤ 6 := by omega
      clear hr h h3 h4 hkk
      go_enter Try.func22, Try.ntmps22
      go_wp2_with fail
      refine (KV _ (by go_grown)).out.mono ?_
      rintro e w1 ⟨rfl, hb1⟩
      have hB1 : Below w.heap.size w w1 := after (by go_grown) hb1
      obtain ⟨hc1, _⟩ := bcell hb1
      have hs1 := hb1.size
      simp at hs1
      clear KV hb1
      go_wp2_with fail
      refine (KS _ _ hB1 (by omega) (by rw [hc1 _ _ (by simp)]; simp [go_sem])).out.mono ?_
      rintro e w2 ⟨rfl, hb2⟩
      have hB2 : Below w.heap.size w w2 := after hB1 hb2
      clear KS hb2 hc1
      go_wp2
      go_ret2
      exact ⟨rfl, hB2⟩
end Go.Proofs.Ytmaojcjnpblffaa
