/- The laws' helpers: Pick, store, sameStore, sameTexts, short. -/
import Derived.Test.YtbkicepkkcambaaJouO
namespace Go.Proofs.Ytbkicepkkcambaa
open Go.RowKit BigFrame Go.Shelf
set_option linter.unusedVariables false
set_option linter.unusedSimpArgs false

def pick (n m : Int) : Int := if m < 1 then 0 else n % m
set_option maxHeartbeats 400000 in
theorem pick_any (n m : Int) (w : World) (hn : -9223372036854775808 ≤ n ∧ n ≤ 9223372036854775807) (hm : m ≤ 9223372036854775807) :
    Calls Try.prog 24 #[.int .i64 n, .int .i64 m] w fun e w' => e = .returned (.int .i64 (pick n m)) ∧ w = w' := by
  by_cases h1 : m < 1
  · go_enter Try.func24, Try.ntmps24
    go_wp2_with fail
    go_ret
    exact ⟨ret_int (by unfold pick; rw [if_pos h1]), rfl⟩
  · have i1 : 1 ≤ m := by omega
    by_cases h0 : 0 ≤ n
    · have hr : 0 ≤ n % m := Int.emod_nonneg _ (by omega)
      clear h1
      go_enter Try.func24, Try.ntmps24
      go_wp2_with fail
      go_ret
      exact ⟨ret_int (by unfold pick; rw [if_neg (by omega)]), rfl⟩
    · obtain ⟨t, ht⟩ : ∃ t, n.tmod m = t := ⟨_, rfl⟩
      have hlt := Int.emod_lt_of_pos n (show 0 < m by omega)
      have hge := Int.emod_nonneg n (show m ≠ 0 by omega)
      have he : (t = 0 ∧ n % m = 0) ∨ (t < 0 ∧ t = n % m - m) := by
        rw [← ht, Int.tmod_eq_emod]
        by_cases hd : m ∣ n
        · left
          rw [if_pos (.inr hd), Int.emod_eq_zero_of_dvd hd]
          exact ⟨rfl, rfl⟩
        · right
          rw [if_neg (fun h => h.elim h0 hd)]
          omega
      have hp : pick n m = if t < 0 then t + m else t := by
        unfold pick
        rw [if_neg (by omega)]
        rcases he with ⟨e1, e2⟩ | ⟨e1, e2⟩
        · rw [if_neg (by omega), e1, e2]
        · rw [if_pos e1, e2, Int.sub_add_cancel]
      have HP := Lib.hid hp
      have b1 : -m ≤ t := by omega
      have b2 : t ≤ 0 := by omega
      have i0 : n < 0 := by omega
      by_cases h5 : t < 0
      · clear h1 hlt hge he hp h0
        go_enter Try.func24, Try.ntmps24
        go_wp2_with fail
        go_ret
        exact ⟨ret_int (by rw [HP.out, if_pos h5]), rfl⟩
      · have h6 : t = 0 := by omega
        subst h6
        clear h1 hlt hge he hp h0 h5
        go_enter Try.func24, Try.ntmps24
        go_wp2_with fail
        go_ret
        exact ⟨ret_int (by rw [HP.out, if_neg (by omega)]), rfl⟩
set_option maxHeartbeats 400000 in
theorem store_any (A : Option Addr) (n c : Nat) (p : Int) (w : World) :
    Calls Try.prog 13 #[.agg #[.slice A n c, .int .i64 p]] w fun e w' => e = .returned (.agg #[.slice A n c, .int .i64 p]) ∧ Below w.heap.size w w' := by
  go_enter Try.func13, Try.ntmps13
  go_wp2_with fail
  refine bodyPost_ret (v := .agg #[.slice A n c, .int .i64 p]) (by simp [results, Try.results13, go_sem]) rfl ⟨rfl, ?_⟩
  go_grown
set_option maxHeartbeats 1000000 in
theorem sameStore_any (A A' : Option Addr) (n c n' c' : Nat) (p p' : Int) (a b : Bytes) (w : World) (ha : Bys w w.heap.size A n a) (hb : Bys w w.heap.size A' n' b) :
    Calls Try.prog 12 #[.agg #[.slice A n c, .int .i64 p], .agg #[.slice A' n' c', .int .i64 p']] w fun e w' => e = .returned (.bool (decide (p = p') && (a == b))) ∧ Below w.heap.size w w' := by
  have ca := fun W (hW : Below w.heap.size w W) => (ha.to hW).conv (P := Try.prog) 25 5 9 c Try.underlying25 Try.underlying5 Try.underlying9
  have cb := fun W (hW : Below w.heap.size w W) => (hb.to hW).conv (P := Try.prog) 25 5 9 c' Try.underlying25 Try.underlying5 Try.underlying9
  have ca1 := ca ((w.alloc (.cells #[.slice A n c, .int .i64 p] 30)).alloc (.cells #[.slice A' n' c', .int .i64 p'] 30)) (by go_grown)
  have cb1 := cb ((w.alloc (.cells #[.slice A n c, .int .i64 p] 30)).alloc (.cells #[.slice A' n' c', .int .i64 p'] 30)) (by go_grown)
  clear ca cb ha hb
  by_cases hp : p = p'
  · subst hp
    go_enter Try.func12, Try.ntmps12
    go_wp2_with fail
    go_ret
    exact ⟨ret_bool (by simp), by go_grown⟩
  · have hpe : (p == p') = false := by simpa using hp
    go_enter Try.func12, Try.ntmps12
    go_wp2_with fail
    go_ret
    exact ⟨ret_bool (by simp [hp]), by go_grown⟩

/-- Payloads in memory: each value of vs is a slice that reads as the text at its place. -/
def Rws (w : World) (B : Nat) : List Value → List Bytes → Prop
  | [], [] => True
  | v :: vs, x :: l => (∃ A c, v = .slice A x.length c ∧ x.length ≤ c ∧ c ≤ 9223372036854775807 ∧ Bys w B A x.length x) ∧ Rws w B vs l
  | _, _ => False
theorem Rws.map {w w' : World} {B B' : Nat} (H : ∀ A n x, Bys w B A n x → Bys w' B' A n x) : ∀ {vs : List Value} {l : List Bytes}, Rws w B vs l → Rws w' B' vs l
  | [], [], _ => trivial
  | v :: vs, x :: l, h => ⟨by obtain ⟨A, c, e, h1, h2, h3⟩ := h.1; exact ⟨A, c, e, h1, h2, H _ _ _ h3⟩, Rws.map H h.2⟩
  | [], _ :: _, h => h.elim
  | _ :: _, [], h => h.elim
theorem Rws.len {w : World} {B : Nat} : ∀ {vs : List Value} {l : List Bytes}, Rws w B vs l → vs.length = l.length
  | [], [], _ => rfl
  | v :: vs, x :: l, h => by simp [Rws.len h.2]
  | [], _ :: _, h => h.elim
  | _ :: _, [], h => h.elim
theorem Rws.at_ {w : World} {B : Nat} : ∀ {vs : List Value} {l : List Bytes} {i : Nat}, Rws w B vs l → i < l.length → ∃ x A c, l[i]? = some x ∧ vs[i]? = some (.slice A x.length c) ∧ x.length ≤ c ∧ c ≤ 9223372036854775807 ∧ Bys w B A x.length x
  | [], [], i, _, hi => by simp at hi
  | v :: vs, x :: l, 0, h, _ => by
    obtain ⟨A, c, e, h1, h2, h3⟩ := h.1
    exact ⟨x, A, c, rfl, by rw [e]; rfl, h1, h2, h3⟩
  | v :: vs, x :: l, i + 1, h, hi => by
    obtain ⟨y, A, c, h1, h2, h3⟩ := Rws.at_ (i := i) h.2 (by simpa using hi)
    exact ⟨y, A, c, by simpa using h1, by simpa using h2, h3⟩
  | [], _ :: _, _, h, _ => h.elim
  | _ :: _, [], _, h, _ => h.elim
theorem Rws.take {w : World} {B : Nat} : ∀ {vs : List Value} {l : List Bytes} (k : Nat), Rws w B vs l → Rws w B (vs.take k) (l.take k)
  | [], [], k, _ => by simp [Rws]
  | v :: vs, x :: l, 0, h => by simp [Rws]
  | v :: vs, x :: l, k + 1, h => ⟨h.1, Rws.take k h.2⟩
  | [], _ :: _, _, h => h.elim
  | _ :: _, [], _, h => h.elim
theorem Rws.snoc {w : World} {B : Nat} {v : Value} {x : Bytes} (hv : ∃ A c, v = .slice A x.length c ∧ x.length ≤ c ∧ c ≤ 9223372036854775807 ∧ Bys w B A x.length x) : ∀ {vs : List Value} {l : List Bytes}, Rws w B vs l → Rws w B (vs ++ [v]) (l ++ [x])
  | [], [], _ => ⟨hv, trivial⟩
  | v :: vs, x :: l, h => ⟨h.1, Rws.snoc hv h.2⟩
  | [], _ :: _, h => h.elim
  | _ :: _, [], h => h.elim
theorem Rws.of_own {w : World} {base : Nat} : ∀ {vs : List Value} {l : List Bytes}, OwnTexts w base vs l → Rws w w.heap.size vs l
  | [], [], _ => trivial
  | v :: vs, x :: l, h => ⟨by
    obtain ⟨A, c, e, _⟩ := own_shape h.1
    obtain ⟨h1, h2⟩ := own_cap (e ▸ h.1)
    exact ⟨A, c, e, h1, h2, Bys.of_own (e ▸ h.1)⟩, Rws.of_own h.2⟩
  | [], _ :: _, h => h.elim
  | _ :: _, [], h => h.elim
/-- A slice of payloads. -/
structure Tx (w : World) (B : Nat) (A : Option Addr) (n : Nat) (l : List Bytes) : Prop where
  len : l.length = n
  rows : ∃ vs, Reads w B 1 A n vs ∧ Rws w B vs l
section
variable {w w' : World} {B B' n : Nat} {A : Option Addr} {l : List Bytes}
theorem Tx.later {B0 : Nat} (h : Tx w B A n l) (hB : B ≤ B0) (hb : Below B0 w w') : Tx w' B A n l := by
  obtain ⟨vs, h1, h2⟩ := h.rows
  exact ⟨h.len, vs, h1.later hB hb, h2.map fun _ _ _ h => h.later hB hb⟩
theorem Tx.more (h : Tx w B A n l) (hB : B ≤ B') : Tx w B' A n l := by
  obtain ⟨vs, h1, h2⟩ := h.rows
  exact ⟨h.len, vs, h1.more hB, h2.map fun _ _ _ h => h.more hB⟩
theorem Tx.to (h : Tx w w.heap.size A n l) (hb : Below w.heap.size w w') : Tx w' w'.heap.size A n l := (h.later (Nat.le_refl _) hb).more hb.size
theorem Tx.at_ (h : Tx w B A n l) {i : Nat} (hi : i < n) : ∃ x b o A' c', l[i]? = some x ∧ A = some ⟨b, o, none⟩ ∧ b < B ∧ w.cell? ⟨b, o + i, none⟩ = some (.slice A' x.length c') ∧ x.length ≤ c' ∧ c' ≤ 9223372036854775807 ∧ Bys w B A' x.length x := by
  obtain ⟨vs, h1, h2⟩ := h.rows
  obtain ⟨b, o, e, hb, hc⟩ := h1.2 (by omega)
  obtain ⟨x, A', c', hx, hv, r⟩ := h2.at_ (i := i) (by rw [h.len]; exact hi)
  exact ⟨x, b, o, A', c', hx, e, hb, hc _ _ hv, r⟩
theorem Tx.of_own {base c : Nat} {vs : List Value} (h : w.ownsRow base 25 1 (.slice A n c) n vs) (ht : OwnTexts w base vs l) : Tx w w.heap.size A n l :=
  ⟨by have := h.1; rw [ht.len] at this; omega, vs, Reads.of_own h, Rws.of_own ht⟩
theorem Tx.nil_ : Tx w B A 0 [] := ⟨rfl, [], ⟨rfl, fun h => absurd h (by omega)⟩, trivial⟩
theorem Tx.take (h : Tx w B A n l) {k : Nat} (hk : k ≤ n) : Tx w B A k (l.take k) := by
  obtain ⟨vs, h1, h2⟩ := h.rows
  refine ⟨by rw [List.length_take, h.len]; omega, vs.take k, ?_, h2.take k⟩
  have := h1.take (k := k) hk
  rwa [Nat.mul_one] at this
end
set_option maxRecDepth 100000 in
set_option maxHeartbeats 2000000 in
theorem sameTexts_any (A A' : Option Addr) (n c n' c' : Nat) (a b : List Bytes) (w : World) (ha : Tx w w.heap.size A n a) (hb : Tx w w.heap.size A' n' b) (hn : n ≤ 1000000000) (hn' : n' ≤ 9223372036854775807) :
    Calls Try.prog 18 #[.slice A n c, .slice A' n' c'] w fun e w' => e = .returned (.bool (decide (a = b))) ∧ Below w.heap.size w w' := by
  have hla := ha.len
  have hlb := hb.len
  by_cases hne : n = n'
  · subst hne
    have HA := Lib.hid ha
    have HB := Lib.hid hb
    have HL := Lib.hid (And.intro hla hlb)
    clear ha hb hla hlb
    go_enter Try.func18, Try.ntmps18
    go_wp2_with fail
    go_loopw [5] (fun i wr => ∃ k : Nat, k ≤ n ∧ i = .int .i64 k ∧ Below w.heap.size w wr ∧ a.take k = b.take k) (fun i _ => n - (intOf i).toNat)
    case atStart => exact ⟨0, Nat.zero_le _, rfl, Below.refl _ _, by simp⟩
    case round =>
      obtain ⟨k, hk, rfl, hb, htk⟩ := hrel
      by_cases hlt : k < n
      · obtain ⟨x, b1, o, A1, c1, hx, hAe, hbB, cx, _, _, bx⟩ := (HA.out.to hb).at_ hlt
        obtain ⟨y, b2, o2, A2, c2, hy, hBe, hbB2, cy, _, _, by_⟩ := (HB.out.to hb).at_ hlt
        subst hAe hBe
        have CX : ∀ p : Later wr, p.val.cell? ⟨b1, o + k, none⟩ = some (.slice A1 x.length c1) := fun p => p.cell (a := ⟨b1, o + k, none⟩) hbB cx
        have CY : ∀ p : Later wr, p.val.cell? ⟨b2, o2 + k, none⟩ = some (.slice A2 y.length c2) := fun p => p.cell (a := ⟨b2, o2 + k, none⟩) hbB2 cy
        have VX : ∀ p : Later wr, (convert 25 9 (.slice A1 x.length c1)).run Try.prog p.val = .ok (.string ⟨x.toArray⟩) p.val := fun p => (bx.to p.ok).conv _ 5 _ _ Try.underlying25 Try.underlying5 Try.underlying9
        have VY : ∀ p : Later wr, (convert 25 9 (.slice A2 y.length c2)).run Try.prog p.val = .ok (.string ⟨y.toArray⟩) p.val := fun p => (by_.to p.ok).conv _ 5 _ _ Try.underlying25 Try.underlying5 Try.underlying9
        have Hb := Lib.hid hb
        have HX := Lib.hid (And.intro hx hy)
        have HT := Lib.hid htk
        have hki : (k : Int) < (n : Int) := by omega
        have hk0 : (0 : Int) ≤ (k : Int) := by omega
        clear hx hy cx cy hb bx by_ htk
        by_cases hxy : x = y
        · subst hxy
          go_wp2_with fail
          (refine wp_region_later (by kernel_rfl) (by kernel_rfl) ?_; (repeat (first | go_big_quiet_step ((fail)) | quiet_step ((fail)))); refine wpQuiet_nil ?_; intro _ hw1; obtain ⟨pq, hw2⟩ := hw1; subst hw2)
          clear CX CY VX VY
          go_wp2
          go_roundw
          case rel =>
            refine ⟨k + 1, by omega, by go_num, after Hb.out pq.ok, ?_⟩
            rw [List.take_add_one, List.take_add_one, HT.out, HX.out.1, HX.out.2]
          case measure => simp [intOf]; omega
        · have hne : (x == y) = false := by rw [beq_eq_false_iff_ne]; exact hxy
          have hne2 : (x != y) = true := by simp [bne, hne]
          have HNE := Lib.hid hxy
          clear hxy
          go_wp2_with fail
          (refine wp_region_later (by kernel_rfl) (by kernel_rfl) ?_; (repeat (first | go_big_quiet_step ((fail)) | quiet_step ((fail)))); refine wpQuiet_nil ?_; intro _ hw1; obtain ⟨pq, hw2⟩ := hw1; subst hw2)
          clear CX CY VX VY
          go_wp2
          go_ret
          refine ⟨ret_bool ?_, after Hb.out pq.ok⟩
          symm
          rw [decide_eq_false_iff_not]
          intro e
          have := HX.out
          rw [e, this.2] at this
          injection this.1 with e'
          exact HNE.out e'.symm
      · obtain rfl : k = n := by omega
        have HT := Lib.hid htk
        clear htk
        go_wp2
        go_ret
        refine ⟨ret_bool ?_, hb⟩
        have h1 := HL.out.1
        have h2 := HL.out.2
        have := HT.out
        rw [List.take_of_length_le (by omega), List.take_of_length_le (by omega)] at this
        exact (decide_eq_true this).symm
  · have hne2 : ((n : Int) == (n' : Int)) = false := by rw [beq_eq_false_iff_ne]; omega
    have hne4 : ((n : Int) != (n' : Int)) = true := by simp [bne, hne2]
    have hne3 : a ≠ b := fun e => hne (by rw [← hla, ← hlb, e])
    clear hla hlb hne
    go_enter Try.func18, Try.ntmps18
    go_wp2_with fail
    go_ret
    exact ⟨ret_bool (decide_eq_false hne3).symm, Below.refl _ _⟩

def shortB (l : List Bytes) (m : Int) : Bool := decide ((l.length : Int) ≤ m ∧ ∀ x ∈ l, x.length ≤ 300)
set_option maxRecDepth 100000 in
set_option maxHeartbeats 2000000 in
theorem short_any (A : Option Addr) (n c : Nat) (m : Int) (a : List Bytes) (w : World) (ha : Tx w w.heap.size A n a) (hn : n ≤ 9223372036854775807) (hm : m ≤ 1000000) (hm0 : 0 ≤ m) :
    Calls Try.prog 21 #[.slice A n c, .int .i64 m] w fun e w' => e = .returned (.bool (shortB a m)) ∧ w = w' := by
  have HA := Lib.hid ha
  clear ha
  go_enter Try.func21, Try.ntmps21
  go_wp2_with fail
  go_loop [5] (fun i => ∃ k : Nat, k ≤ n ∧ i = .int .i64 k ∧ (k : Int) ≤ m ∧ ∀ j x, j < k → a[j]? = some x → x.length ≤ 300) (fun i => n - (intOf i).toNat)
  case atStart => exact ⟨0, Nat.zero_le _, rfl, hm0, fun _ _ h => absurd h (by omega)⟩
  case round =>
    obtain ⟨k, hk, rfl, hkm, hall⟩ := hrel
    have HL := Lib.hid hall
    clear hall
    by_cases hlt : k < n
    · obtain ⟨x, b1, o, A1, c1, hx, hAe, hbB, cx, _⟩ := HA.out.at_ hlt
      subst hAe
      have HX := Lib.hid hx
      have hln := HA.out.len
      have HLN := Lib.hid hln
      clear hx hln
      have hki : (k : Int) < (n : Int) := by omega
      have hk0 : (0 : Int) ≤ (k : Int) := by omega
      by_cases h1 : m ≤ k
      · go_wp2_with fail
        go_ret
        refine ⟨ret_bool ?_, rfl⟩
        symm
        unfold shortB
        rw [decide_eq_false_iff_not, HLN.out]
        omega
      · by_cases h2 : 300 < x.length
        · have i2 : (300 : Int) < x.length := by omega
          go_wp2_with fail
          go_ret
          refine ⟨ret_bool ?_, rfl⟩
          symm
          unfold shortB
          rw [decide_eq_false_iff_not]
          rintro ⟨_, h⟩
          have := h x (List.mem_of_getElem? HX.out)
          omega
        · have i2 : (x.length : Int) ≤ 300 := by omega
          go_wp2_with fail
          go_round
          case rel =>
            refine ⟨k + 1, by omega, by go_num, by omega, fun j y hj hy => ?_⟩
            by_cases e : j = k
            · subst e
              rw [HX.out] at hy
              injection hy with hy
              subst hy
              omega
            · exact HL.out j y (by omega) hy
          case measure => simp [intOf]; omega
    · obtain rfl : k = n := by omega
      go_wp2
      go_ret
      refine ⟨ret_bool ?_, rfl⟩
      symm
      unfold shortB
      rw [decide_eq_true_iff]
      refine ⟨by rw [HA.out.len]; exact hkm, fun x hx => ?_⟩
      obtain ⟨j, hj⟩ := List.mem_iff_getElem?.1 hx
      exact HL.out j x (by have := (List.getElem?_eq_some_iff.1 hj).1; rw [HA.out.len] at this; exact this) hj
end Go.Proofs.Ytbkicepkkcambaa
