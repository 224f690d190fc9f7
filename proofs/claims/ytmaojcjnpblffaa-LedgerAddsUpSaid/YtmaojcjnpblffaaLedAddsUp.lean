/- The walk of LedgerAddsUp. -/
import Derived.Test.YtmaojcjnpblffaaLedM
namespace Go.Proofs.Ytmaojcjnpblffaa
open Go.RowKit BigFrame

def postedTo (L : Led) : Nat → Int
  | 0 => 0
  | k + 1 => postedTo L k + postedV L (L.start + k)
theorem postedTo_bd {L : Led} (hv : validB L = true) : ∀ k : Nat, -(4398046511104000 * (k : Int)) ≤ postedTo L k ∧ postedTo L k ≤ 4398046511104000 * (k : Int)
  | 0 => by simp [postedTo]
  | k + 1 => by
    have ih := postedTo_bd hv k
    have hp := posted_bd hv (L.start + k)
    simp only [postedTo]
    omega
theorem opens_posted (L : Led) : ∀ k : Nat, k ≤ L.due.length → opensTo L k + postedTo L k = (L.due.take k).sum
  | 0, _ => by simp [opensTo, postedTo]
  | k + 1, h => by
    have ih := opens_posted L k (by omega)
    have hk : L.due[k]? = some (L.due[k]'(by omega)) := List.getElem?_eq_getElem (by omega)
    rw [List.take_add_one, hk]
    simp only [opensTo, postedTo, openV_at, Option.toList_some, List.sum_append, List.sum_cons, List.sum_nil]
    rw [List.getD_eq_getElem?_getD, hk]
    simp only [Option.getD_some]
    omega
theorem due_sum_bd {L : Led} (hv : validB L = true) (k : Nat) : 0 ≤ (L.due.take k).sum ∧ (L.due.take k).sum ≤ 1099511627776 * (k : Int) := by
  obtain ⟨_, hdue, _⟩ := valid_here hv
  have : ∀ l : List Int, (∀ d ∈ l, 0 ≤ d ∧ d ≤ 1099511627776) → 0 ≤ l.sum ∧ l.sum ≤ 1099511627776 * (l.length : Int) := by
    intro l
    induction l with
    | nil => simp
    | cons a l ih =>
      intro h
      have h1 := h a (by simp)
      have h2 := ih fun d hd => h d (by simp [hd])
      simp only [List.sum_cons, List.length_cons]
      omega
  have h := this (L.due.take k) fun d hd => hdue d (List.mem_of_mem_take hd)
  have hl : (L.due.take k).length ≤ k := List.length_take_le _ _
  omega

/-- Each posting of the principal is for a month of the ledger: the months' sums are the kinds' sums. -/
def prin (p : Paid) : Int := if p.kind = 3 then 0 else p.amount
theorem sumBy_add {α : Type} (f g : α → Int) (l : List α) : sumBy (fun x => f x + g x) l = sumBy f l + sumBy g l := by
  induction l with
  | nil => rfl
  | cons a l ih => simp only [sumBy, List.map_cons, List.sum_cons] at *; omega
theorem sumBy_congr {α : Type} {f g : α → Int} {l : List α} (h : ∀ x ∈ l, f x = g x) : sumBy f l = sumBy g l := by
  unfold sumBy; rw [List.map_congr_left h]
def inMonths (s : Int) (k : Nat) (p : Paid) : Int := if s ≤ p.month ∧ p.month < s + k then prin p else 0
theorem postedTo_eq (L : Led) : ∀ k : Nat, postedTo L k = sumBy (inMonths L.start k) L.posts
  | 0 => by
    have : sumBy (inMonths L.start 0) L.posts = sumBy (fun _ => 0) L.posts := sumBy_congr fun x _ => by unfold inMonths; rw [if_neg (by omega)]
    rw [this]
    have hz : ∀ l : List Paid, sumBy (fun _ => (0 : Int)) l = 0 := fun l => by
      induction l with
      | nil => rfl
      | cons a l ih => simp only [sumBy, List.map_cons, List.sum_cons] at *; omega
    rw [hz]
    rfl
  | k + 1 => by
    rw [postedTo, postedTo_eq L k, postedV, ← sumBy_add]
    refine sumBy_congr fun x _ => ?_
    have e : inMonths L.start (k + 1) x = if L.start ≤ x.month ∧ x.month < L.start + (k : Int) + 1 then prin x else 0 := by
      unfold inMonths
      rw [show L.start + ((k + 1 : Nat) : Int) = L.start + (k : Int) + 1 by omega]
    have e0 : inMonths L.start k x = if L.start ≤ x.month ∧ x.month < L.start + (k : Int) then prin x else 0 := rfl
    rw [e, e0]
    unfold princ prin
    by_cases h3 : x.kind = 3
    · have hp : (x.month ≠ L.start + (k : Int) ∨ x.kind = 3) := .inr h3
      rw [if_pos hp, if_pos h3]
      simp
    · by_cases h1 : x.month = L.start + k
      · have hp : ¬ (x.month ≠ L.start + (k : Int) ∨ x.kind = 3) := fun h => h.elim (fun h => h h1) h3
        have hq : ¬ (L.start ≤ x.month ∧ x.month < L.start + (k : Int)) := by omega
        have hr : L.start ≤ x.month ∧ x.month < L.start + (k : Int) + 1 := by omega
        rw [if_neg hp, if_neg hq, if_pos hr, if_neg h3]
        omega
      · have hp : (x.month ≠ L.start + (k : Int) ∨ x.kind = 3) := .inl h1
        rw [if_pos hp, if_neg h3]
        by_cases h2 : L.start ≤ x.month ∧ x.month < L.start + (k : Int)
        · have hr : L.start ≤ x.month ∧ x.month < L.start + (k : Int) + 1 := by omega
          rw [if_pos h2, if_pos hr]; omega
        · have hr : ¬ (L.start ≤ x.month ∧ x.month < L.start + (k : Int) + 1) := by omega
          rw [if_neg h2, if_neg hr]; rfl
theorem kinds_posted {L : Led} (hv : validB L = true) : totalV L 1 + totalV L 2 + totalV L 4 + totalV L 5 + totalV L 6 = postedTo L L.due.length := by
  rw [postedTo_eq]
  unfold totalV
  rw [← sumBy_add, ← sumBy_add, ← sumBy_add, ← sumBy_add]
  obtain ⟨_, _, _, h4, _⟩ := valid_here hv
  refine sumBy_congr fun x hx => ?_
  have := of_decide_eq_true (h4 x hx)
  unfold inMonths prin
  rw [if_pos this.2.1]
  simp only [kindOf]
  rcases this.2.2 with ⟨h | h | h | h, _⟩ | ⟨h | h, _⟩ <;> simp [h]
theorem total_bd {L : Led} (hv : validB L = true) (k : Int) : -4398046511104000 ≤ totalV L k ∧ totalV L k ≤ 4398046511104000 := by
  obtain ⟨_, _, h3, h4, _⟩ := valid_here hv
  have := sumBy_bound (kindOf k) 1099511627776 (by omega) L.posts (fun x hx => by
    have := of_decide_eq_true (h4 x hx)
    unfold kindOf
    split <;> omega)
  unfold totalV
  omega
theorem totalR_ok {L : Led} (hv : validB L = true) {k : Int} (h1 : 1 ≤ k) (h2 : k ≤ 6) : totalR L k = (totalV L k, 0) := by
  unfold totalR; rw [if_neg (by rw [hv]; simp only [Bool.true_eq_false, false_or]; omega)]
/-- The kinds in the order in which the law adds them. -/
def kindAt : Nat → Int
  | 0 => 1 | 1 => 2 | 2 => 4 | 3 => 5 | _ => 6
def kindsTo (L : Led) : Nat → Int
  | 0 => 0
  | k + 1 => kindsTo L k + totalV L (kindAt k)
theorem kindsTo_five {L : Led} (hv : validB L = true) : kindsTo L 5 = postedTo L L.due.length := by
  rw [← kinds_posted hv]
  simp only [kindsTo, kindAt]
  omega
theorem kindsTo_bd {L : Led} (hv : validB L = true) : ∀ k : Nat, -(4398046511104000 * (k : Int)) ≤ kindsTo L k ∧ kindsTo L k ≤ 4398046511104000 * (k : Int)
  | 0 => by simp [kindsTo]
  | k + 1 => by
    have ih := kindsTo_bd hv k
    have hp := total_bd hv (kindAt k)
    simp only [kindsTo]
    omega
theorem balance_all {L : Led} (hv : validB L = true) : balanceV L 2400 = opensTo L L.due.length := by
  obtain ⟨⟨h0, h1, h2⟩, _⟩ := valid_here hv
  exact balanceV_high L 2400 (by omega)
set_option maxRecDepth 100000 in
set_option maxHeartbeats 8000000 in
theorem addsup_walk (A : Option Addr) (n c : Nat) (A' : Option Addr) (n' c' : Nat) (L : Led) (w : World) (h : LedIn w w.heap.size A n A' n' L) :
    Calls Try.prog 7 #[.agg #[.int .i64 L.start, .slice A n c, .slice A' n' c']] w fun e w' => e = .returned (.bool true) ∧ Below w.heap.size w w' := by
  have KU := fun W hW => Lib.hid (usable_any A n c A' n' c' L W (h.to (w' := W) hW))
  have KW := fun W => Lib.hid (awake_any W)
  cases hu : usableB L
  · clear h
    go_enter Try.func7, Try.ntmps7
    go_wp2_with fail
    refine (KU _ (by go_grown)).out.mono ?_
    rintro e w1 ⟨rfl, hb1⟩
    have hB1 : Below w.heap.size w w1 := after (by go_grown) hb1
    clear KU hb1
    go_wp2_with fail
    refine (KW _).out.mono ?_
    rintro e w2 ⟨rfl, hb2⟩
    have hB2 := after hB1 hb2
    go_wp2
    go_ret
    exact ⟨rfl, hB2⟩
  · obtain ⟨u1, u2, hv⟩ := usable_here hu
    obtain ⟨⟨s0, s1, _⟩, hdue, _⟩ := valid_here hv
    have hlen := h.due.len
    have KB : ∀ W, Below w.heap.size w W → Hid (Calls Try.prog 17 #[.agg #[.int .i64 L.start, .slice A n c, .slice A' n' c'], .int .i64 2400] W fun e w' => e = .returned (.tuple #[.int .i64 (opensTo L n), .int .i64 0]) ∧ Below W.heap.size W w') := by
      intro W hW
      have := balance_any A n c A' n' c' L 2400 W (h.to hW) (by omega)
      rw [balanceR_ok hv, balance_all hv, hlen] at this
      exact this
    have KO : ∀ (k : Nat), k < n → ∀ W, Below w.heap.size w W → Hid (Calls Try.prog 16 #[.agg #[.int .i64 L.start, .slice A n c, .slice A' n' c'], .int .i64 (L.start + k)] W fun e w' => e = .returned (.tuple #[.int .i64 (openV L (L.start + k)), .int .i64 0]) ∧ Below W.heap.size W w') := by
      intro k hk W hW
      have := open_any A n c A' n' c' L (L.start + k) W (h.to hW) (by omega)
      rw [openR_ok hv (by omega)] at this
      exact this
    have KP : ∀ (k : Nat), k < n → ∀ W, Below w.heap.size w W → Hid (Calls Try.prog 21 #[.agg #[.int .i64 L.start, .slice A n c, .slice A' n' c'], .int .i64 (L.start + k)] W fun e w' => e = .returned (.tuple #[.int .i64 (postedV L (L.start + k)), .int .i64 0]) ∧ Below W.heap.size W w') := by
      intro k hk W hW
      have := posted_any A n c A' n' c' L (L.start + k) W (h.to hW) (by omega)
      rw [postedR_ok hv (by omega)] at this
      exact this
    have KT : ∀ (j : Int), 1 ≤ j → j ≤ 6 → ∀ W, Below w.heap.size w W → Hid (Calls Try.prog 22 #[.agg #[.int .i64 L.start, .slice A n c, .slice A' n' c'], .int .u8 j] W fun e w' => e = .returned (.tuple #[.int .i64 (totalV L j), .int .i64 0]) ∧ Below W.heap.size W w') := by
      intro j j1 j6 W hW
      have := total_any A n c A' n' c' L j W (h.to hW) (by omega)
      rw [totalR_ok hv j1 j6] at this
      exact this
    have RD : ∀ k, k < n → ∀ W, Below w.heap.size w W → Hid (∃ x b o, L.due[k]? = some x ∧ A = some ⟨b, o, none⟩ ∧ b < w.heap.size ∧ W.cell? ⟨b, o + k, none⟩ = some (.int .i64 x)) := fun k hk W hW => (h.due.later (Nat.le_refl _) hW).at_ hk
    have BP := fun q => Lib.hid (posted_bd hv q)
    have BT := fun k => Lib.hid (postedTo_bd hv k)
    have BS := fun k => Lib.hid (due_sum_bd hv k)
    have BK := fun k => Lib.hid (kindsTo_bd hv k)
    have BJ := fun k => Lib.hid (total_bd hv k)
    have hfin1 := Lib.hid (kindsTo_five hv)
    have hfin2 := Lib.hid (opens_posted L L.due.length (Nat.le_refl _))
    have bopen := opensTo_bd hv n (by omega)
    rw [hlen] at hfin1 hfin2
    have DU : ∀ (k : Nat) (x : Int), L.due[k]? = some x → Hid (openV L (L.start + k) = x - postedV L (L.start + k) ∧ (L.due.take (k + 1)).sum = (L.due.take k).sum + x ∧ 0 ≤ x ∧ x ≤ 1099511627776) := fun k x hx => ⟨by rw [openV_at, List.getD_eq_getElem?_getD, hx]; rfl, by rw [List.take_add_one, hx]; simp [List.sum_append], hdue x (List.mem_of_getElem? hx)⟩
    have PT : ∀ k : Nat, Hid (postedTo L (k + 1) = postedTo L k + postedV L (L.start + k)) := fun k => rfl
    have KT2 : ∀ k : Nat, Hid (kindsTo L (k + 1) = kindsTo L k + totalV L (kindAt k)) := fun k => rfl
    have u1' : n ≤ 40 := by omega
    have s1' : L.start ≤ 2400 := by omega
    have o1 : -175965840909271040 ≤ opensTo L n := by omega
    have o2 : opensTo L n ≤ 175965840909271040 := by omega
    clear h u1 u2 hv hlen s1 hdue bopen
    generalize L.start = s at *
    generalize opensTo L n = oN at *
    go_enter Try.func7, Try.ntmps7
    go_wp2_with fail
    refine (KU _ (by go_grown)).out.mono ?_
    rintro e w1 ⟨rfl, hb1⟩
    have hB1 : Below w.heap.size w w1 := after (by go_grown) hb1
    have hz1 : w.heap.size < w1.heap.size := Nat.lt_of_lt_of_le (by first | omega | (simp; done) | (simp; omega)) hb1.size
    have F : ∀ W, Below w1.heap.size w1 W → Hid (W.cell? ⟨w.heap.size, 0, none⟩ = some (.int .i64 s) ∧ W.cell? ⟨w.heap.size, 1, none⟩ = some (.slice A n c) ∧ W.cell? ⟨w.heap.size, 2, none⟩ = some (.slice A' n' c')) := fun W hW =>
      held3 hW hz1 (held3 hb1 (by first | omega | (simp; done) | (simp; omega)) (by simp [go_sem]))
    obtain ⟨f0, f1, f2⟩ := (F w1 (Below.refl _ _)).out
    clear KU hb1
    go_wp2_with fail
    go_loopw [3, 4, 25] (fun d t i wr => ∃ k : Nat, k ≤ n ∧ i = .int .i64 k ∧ d = .int .i64 (L.due.take k).sum ∧ t = .int .i64 (postedTo L k) ∧ Below w1.heap.size w1 wr) (fun _ _ i _ => n - (intOf i).toNat)
    case atStart => exact ⟨0, Nat.zero_le _, rfl, rfl, rfl, Below.refl _ _⟩
    case round =>
      obtain ⟨k, hk, rfl, rfl, rfl, hb⟩ := hrel
      clear f0 f1 f2
      obtain ⟨f0, f1, f2⟩ := (F _ hb).out
      have hBr : Below w.heap.size w wr := after hB1 hb
      by_cases hlt : k < n
      · obtain ⟨x, b, o, hx, rfl, hbB, cx⟩ := (RD k hlt wr hBr).out
        have DUk := DU k x hx
        obtain ⟨e1, e2, x0, x1⟩ := DUk.out
        have bq := (BP (s + k)).out
        have bt := (BT k).out
        have bs := (BS k).out
        have KPk := KP k hlt
        have KOk := KO k hlt
        have hpt := (PT k).out
        have E2 := Lib.hid e2
        rw [e1] at KOk
        generalize postedV L (s + k) = q at *
        generalize postedTo L k = t at *
        generalize (L.due.take k).sum = d at *
        have HPT := Lib.hid hpt
        have HB := Lib.hid hb
        have q1 : -4398046511104000 ≤ q := by omega
        have q2 : q ≤ 4398046511104000 := by omega
        have t1 : -4398046511104000000 ≤ t := by omega
        have t2 : t ≤ 4398046511104000000 := by omega
        have d1 : 0 ≤ d := by omega
        have d2 : d ≤ 1099511627776000 := by omega
        have r1 : IntKind.i64.wrap (x - q) = x - q := IntWalk.i64_in _ (by omega)
        have r2 : q + (x - q) = x := by omega
        clear KP KO KT KB RD BP BT BS BK BJ DU DUk PT KT2 hx e1 e2 bq bt bs hpt hb
        go_wp2_with fail
        refine (KPk _ hBr).out.mono ?_
        rintro e w2 ⟨rfl, hb2⟩
        have hA2 := after HB.out hb2
        have hB2 := after hBr hb2
        obtain ⟨g0, g1, g2⟩ := (F _ hA2).out
        clear f0 f1 f2 hb2 KPk
        go_wp2_with fail
        refine (KOk _ hB2).out.mono ?_
        rintro e w3 ⟨rfl, hb3⟩
        have hA3 := Lib.hid (after hA2 hb3)
        clear g0 g1 g2 hb3 KOk hA2 hB2 F cx
        go_wp2
        go_roundw
        case rel => exact ⟨k + 1, by omega, by go_num, by rw [E2.out], by rw [HPT.out], hA3.out⟩
        case measure => simp [intOf]; omega
      · have hkn : k = n := by omega
        subst hkn
        have bt := (BT k).out
        have bs := (BS k).out
        have HB := Lib.hid hb
        clear RD BP BT BS DU PT KO KP hb
        generalize (L.due.take k).sum = d at *
        generalize postedTo L k = t at *
        go_wp2_with fail
        obtain ⟨wo, rfl⟩ : ∃ wo : World, wo = wr := ⟨_, rfl⟩
        have hsz := HB.out.size
        have hC0 : Below w1.heap.size w1 (wo.alloc (.cells #[.int .u8 1, .int .u8 2, .int .u8 4, .int .u8 5, .int .u8 6] 5)) := HB.out.alloc hsz _
        have hD0 : Below w.heap.size w (wo.alloc (.cells #[.int .u8 1, .int .u8 2, .int .u8 4, .int .u8 5, .int .u8 6] 5)) := after hB1 hC0
        have hh0 : (wo.alloc (.cells #[.int .u8 1, .int .u8 2, .int .u8 4, .int .u8 5, .int .u8 6] 5)).heap[wo.heap.size]? = some (.cells #[.int .u8 1, .int .u8 2, .int .u8 4, .int .u8 5, .int .u8 6] 5 (0, 0)) := heap_at rfl
        have hz2 : wo.heap.size < (wo.alloc (.cells #[.int .u8 1, .int .u8 2, .int .u8 4, .int .u8 5, .int .u8 6] 5)).heap.size := by simp
        generalize (wo.alloc (.cells #[.int .u8 1, .int .u8 2, .int .u8 4, .int .u8 5, .int .u8 6] 5)) = W0 at *
        have G : ∀ (j : Nat), j < 5 → ∀ W, Below W0.heap.size W0 W → Hid (W.cell? ⟨wo.heap.size, j, none⟩ = some (.int .u8 (kindAt j))) := by
          intro j hj W hW
          have hh := (hW.block _ hz2).trans hh0
          rcases (show j = 0 ∨ j = 1 ∨ j = 2 ∨ j = 3 ∨ j = 4 by omega) with rfl | rfl | rfl | rfl | rfl <;> exact cell_of_row W _ _ _ _ _ hh
        clear f0 f1 f2 hh0 hsz HB
        go_loopw [11, 70] (fun t i wr => ∃ j : Nat, j ≤ 5 ∧ i = .int .i64 j ∧ t = .int .i64 (kindsTo L j) ∧ Below W0.heap.size W0 wr) (fun _ i _ => 5 - (intOf i).toNat)
        case atStart => exact ⟨0, by omega, rfl, rfl, Below.refl _ _⟩
        case round =>
          obtain ⟨j, hj, rfl, rfl, hb⟩ := hrel
          have hAr := after hC0 hb
          have hBr' := after hD0 hb
          obtain ⟨f0, f1, f2⟩ := (F _ hAr).out
          by_cases hlt' : j < 5
          · have cx := (G j hlt' _ hb).out
            have kt := (KT2 j).out
            have bk := (BK j).out
            have bj := (BJ (kindAt j)).out
            have kj : 1 ≤ kindAt j ∧ kindAt j ≤ 6 := by
              rcases (show j = 0 ∨ j = 1 ∨ j = 2 ∨ j = 3 ∨ j = 4 by omega) with rfl | rfl | rfl | rfl | rfl <;> decide
            have KTj := KT (kindAt j) kj.1 kj.2
            generalize kindAt j = kd at *
            generalize totalV L kd = v at *
            generalize kindsTo L j = y at *
            have HKT := Lib.hid kt
            have HB := Lib.hid hb
            have y1 : -4398046511104000000 ≤ y := by omega
            have y2 : y ≤ 4398046511104000000 := by omega
            have v1 : -4398046511104000 ≤ v := by omega
            have v2 : v ≤ 4398046511104000 := by omega
            clear KT KT2 BK BJ KB F G kt bk bj hb
            go_wp2_with fail
            refine (KTj _ hBr').out.mono ?_
            rintro e w2 ⟨rfl, hb2⟩
            have hA2 := Lib.hid (after HB.out hb2)
            clear f0 f1 f2 hb2 KTj cx
            go_wp2
            go_roundw
            case rel => exact ⟨j + 1, by omega, by go_num, by rw [HKT.out], hA2.out⟩
            case measure => simp [intOf]; omega
          · have hj5 : j = 5 := by omega
            subst hj5
            have hf1 := hfin1.out
            have hf2 := hfin2.out
            have bk := (BK 5).out
            generalize kindsTo L 5 = y at *
            have y1 : -4398046511104000000 ≤ y := by omega
            have y2 : y ≤ 4398046511104000000 := by omega
            have q1 : (y == t) = true := by rw [beq_iff_eq]; exact hf1
            have q2 : (y + oN == d) = true := by rw [beq_iff_eq]; omega
            clear hf1 hf2 hfin1 hfin2 BK BJ KT KT2 G bk bt bs
            go_wp2_with fail
            refine (KB _ hBr').out.mono ?_
            rintro e w3 ⟨rfl, hb3⟩
            have hB3 := after hBr' hb3
            clear f0 f1 f2 hb3 KB F
            go_wp2_with fail
            refine (KW _).out.mono ?_
            rintro e w4 ⟨rfl, hb4⟩
            have hB4 := after hB3 hb4
            go_wp2
            go_ret
            exact ⟨rfl, hB4⟩
end Go.Proofs.Ytmaojcjnpblffaa
