/- Posted, Open. -/
import Derived.Test.YtmaojcjnpblffaaLedD
import Derived.Deep.RegionWith
import Derived.Deep.RegionHeld3
namespace Go.Proofs.Ytmaojcjnpblffaa
open Go.RowKit BigFrame

def postedV (L : Led) (m : Int) : Int := sumBy (princ m) L.posts
def postedR (L : Led) (m : Int) : Int × Int := if validB L = false then (0, 2) else if hasB L.start L.due.length m = false then (0, 6) else (postedV L m, 0)

set_option maxHeartbeats 1000000 in
theorem posted_any (A : Option Addr) (n c : Nat) (A' : Option Addr) (n' c' : Nat) (L : Led) (m : Int) (w : World) (h : LedIn w w.heap.size A n A' n' L) (hm : -9223372036854775808 ≤ m ∧ m ≤ 9223372036854775807) :
    Calls Try.prog 21 #[.agg #[.int .i64 L.start, .slice A n c, .slice A' n' c'], .int .i64 m] w fun e w' =>
      e = .returned (.tuple #[.int .i64 (postedR L m).1, .int .i64 (postedR L m).2]) ∧ Below w.heap.size w w' := by
  have KV := fun W hW => Lib.hid (valid_any A n c A' n' c' L W (h.to (w' := W) hW))
  have KS : validB L = true → ∀ W b, Below w.heap.size w W → b < W.heap.size → W.cell? ⟨b, 0, none⟩ = some (.int .i64 m) →
      Hid (Calls Try.prog 39 #[.slice A' n' c', .func (.func 53) #[] #[.pointer (some ⟨b, 0, none⟩)]] W fun e w' => e = .returned (.int .i64 (postedV L m)) ∧ Below W.heap.size W w') := by
    intro hv W b hW hb hc
    obtain ⟨_, _, h3, h4, _⟩ := valid_here hv
    exact sum_princ m A' n' c' L.posts L.start L.due.length b W ((h.to hW).posts) (by rw [← h.posts.len]; exact h3) h4 hc hb
  have hlen := h.due.len
  have KS' := Lib.hid KS
  clear KS
  cases hv : validB L
  · have hr : postedR L m = (0, 2) := by unfold postedR; rw [if_pos hv]
    rw [hr]
    clear hr KS' h hlen
    go_enter Try.func21, Try.ntmps21
    go_wp2_with fail
    refine (KV _ (by go_grown)).out.mono ?_
    rintro e w1 ⟨rfl, hb1⟩
    have hB1 : Below w.heap.size w w1 := after (by go_grown) hb1
    clear KV hb1
    go_wp2
    go_ret2
    exact ⟨rfl, hB1⟩
  · obtain ⟨⟨s0, s1, s2⟩, _, _, _, _⟩ := valid_here hv
    have KH : ∀ W, Hid (Calls Try.prog 34 #[.agg #[.int .i64 L.start, .slice A n c, .slice A' n' c'], .int .i64 m] W fun e w' => e = .returned (.bool (hasB L.start L.due.length m)) ∧ Below W.heap.size W w') :=
      fun W => hlen ▸ has_any L.start A A' n c n' c' m W s0 (by omega) (by omega) hm.2
    have KS := KS'.out hv
    cases hh : hasB L.start L.due.length m
    · have hr : postedR L m = (0, 6) := by unfold postedR; rw [if_neg (by simp [hv]), if_pos hh]
      rw [hr]
      clear hr KS' h hlen KS
      go_enter Try.func21, Try.ntmps21
      go_wp2_with fail
      refine (KV _ (by go_grown)).out.mono ?_
      rintro e w1 ⟨rfl, hb1⟩
      have hB1 : Below w.heap.size w w1 := after (by go_grown) hb1
      obtain ⟨hc1, _⟩ := bcell hb1
      clear KV hb1
      go_wp2_with fail
      refine (KH _).out.mono ?_
      rintro e w2 ⟨rfl, hb2⟩
      have hB2 : Below w.heap.size w w2 := after (by go_grown) hb2
      clear KH hb2 hc1
      go_wp2
      go_ret2
      exact ⟨rfl, hB2⟩
    · have hr : postedR L m = (postedV L m, 0) := by unfold postedR; rw [if_neg (by simp [hv]), if_neg (by simp [hh])]
      rw [hr]
      clear hr KS' h hlen
      go_enter Try.func21, Try.ntmps21
      go_wp2_with fail
      refine (KV _ (by go_grown)).out.mono ?_
      rintro e w1 ⟨rfl, hb1⟩
      have hB1 : Below w.heap.size w w1 := after (by go_grown) hb1
      obtain ⟨hc1, _⟩ := bcell hb1
      have hs1 := hb1.size
      simp at hs1
      clear KV
      go_wp2_with fail
      refine (KH _).out.mono ?_
      rintro e w2 ⟨rfl, hb2⟩
      have hB2 : Below w.heap.size w w2 := after (by go_grown) hb2
      obtain ⟨hc2, _⟩ := bcell hb2
      have hs2 := hb2.size
      clear KH
      have q0 : w2.cell? ⟨w.heap.size, 2, none⟩ = some (.slice A' n' c') := by rw [hc2 _ _ (by omega), hc1 _ _ (by simp)]; simp [go_sem]
      have hlt2 : w.heap.size < w2.heap.size := by omega
      have hne2 : ¬ w.heap.size = w2.heap.size := by omega
      clear hc1 hc2 hb1 hb2
      go_wp2_with fail
      go_region_with (first | (go_at_call 40; refine (principal_any _ _).mono ?_; rintro e w3 ⟨rfl, rfl⟩) | (go_at_call 39; refine (KS _ _ (by go_grown) (by simp) (by simp [go_sem])).out.mono ?_; rintro e w4 ⟨rfl, hb4⟩; have hB4 : Below w.heap.size w w4 := after (by go_grown) hb4))
      all_goals
        go_wp2
        go_ret2
        exact ⟨rfl, hB4⟩

def openV (L : Led) (m : Int) : Int := L.due.getD (m - L.start).toNat 0 - postedV L m
def openR (L : Led) (m : Int) : Int × Int := if validB L = false then (0, 2) else if hasB L.start L.due.length m = false then (0, 6) else (openV L m, 0)

theorem posted_bd {L : Led} (hv : validB L = true) (m : Int) : -4398046511104000 ≤ postedV L m ∧ postedV L m ≤ 4398046511104000 := by
  obtain ⟨_, _, h3, h4, _⟩ := valid_here hv
  have := sumBy_bound (princ m) 1099511627776 (by omega) L.posts (princ_bound h4 m)
  unfold postedV
  omega

set_option maxHeartbeats 1000000 in
theorem open_any (A : Option Addr) (n c : Nat) (A' : Option Addr) (n' c' : Nat) (L : Led) (m : Int) (w : World) (h : LedIn w w.heap.size A n A' n' L) (hm : -9223372036854775808 ≤ m ∧ m ≤ 9223372036854775807) :
    Calls Try.prog 16 #[.agg #[.int .i64 L.start, .slice A n c, .slice A' n' c'], .int .i64 m] w fun e w' =>
      e = .returned (.tuple #[.int .i64 (openR L m).1, .int .i64 (openR L m).2]) ∧ Below w.heap.size w w' := by
  have KP := fun W hW => Lib.hid (posted_any A n c A' n' c' L m W (h.to (w' := W) hW) hm)
  have hlen := h.due.len
  cases hv : validB L
  · have hr : openR L m = (0, 2) := by unfold openR; rw [if_pos hv]
    have hp : postedR L m = (0, 2) := by unfold postedR; rw [if_pos hv]
    rw [hr]
    rw [hp] at KP
    clear hr hp h hlen hv
    go_enter Try.func16, Try.ntmps16
    go_wp2_with fail
    refine (KP _ (by go_grown)).out.mono ?_
    rintro e w1 ⟨rfl, hb1⟩
    have hB1 : Below w.heap.size w w1 := after (by go_grown) hb1
    clear KP hb1
    go_wp2
    go_ret2
    exact ⟨rfl, hB1⟩
  · cases hh : hasB L.start L.due.length m
    · have hr : openR L m = (0, 6) := by unfold openR; rw [if_neg (by simp [hv]), if_pos hh]
      have hp : postedR L m = (0, 6) := by unfold postedR; rw [if_neg (by simp [hv]), if_pos hh]
      rw [hr]
      rw [hp] at KP
      clear hr hp h hlen hv hh
      go_enter Try.func16, Try.ntmps16
      go_wp2_with fail
      refine (KP _ (by go_grown)).out.mono ?_
      rintro e w1 ⟨rfl, hb1⟩
      have hB1 : Below w.heap.size w w1 := after (by go_grown) hb1
      clear KP hb1
      go_wp2
      go_ret2
      exact ⟨rfl, hB1⟩
    · have hr : openR L m = (openV L m, 0) := by unfold openR; rw [if_neg (by simp [hv]), if_neg (by simp [hh])]
      have hp : postedR L m = (postedV L m, 0) := by unfold postedR; rw [if_neg (by simp [hv]), if_neg (by simp [hh])]
      have hbd := posted_bd hv m
      obtain ⟨⟨s0, s1, s2⟩, hdue, _, _, _⟩ := valid_here hv
      have hh' := of_decide_eq_true hh
      obtain ⟨k, hk⟩ : ∃ k : Nat, m = L.start + k := ⟨(m - L.start).toNat, by omega⟩
      obtain ⟨d, b, o, hd, rfl, hbB, c0⟩ := h.due.at_ (i := k) (by omega)
      have hdb := hdue d (List.mem_of_getElem? hd)
      have ho : openV L m = d - postedV L m := by
        unfold openV
        rw [show (m - L.start).toNat = k by omega, List.getD_eq_getElem?_getD, hd]
        rfl
      rw [hr, ho]
      rw [hp] at KP
      have hkn : k < n := by omega
      subst hk
      generalize postedV L (L.start + k) = q at *
      generalize L.start = s at *
      clear hr hp h hlen hv hh hh' ho hdue hd
      go_enter Try.func16, Try.ntmps16
      go_wp2_with fail
      refine (KP _ (by go_grown)).out.mono ?_
      rintro e w1 ⟨rfl, hb1⟩
      have hB1 : Below w.heap.size w w1 := after (by go_grown) hb1
      obtain ⟨hc1, _⟩ := bcell hb1
      have ek : IntKind.i64.wrap (s + (k : Int) - s) = k := by rw [show s + (k : Int) - s = k by omega]; exact IntWalk.i64_in _ (by omega)
      have ek' : s + (k : Int) - s = k := by omega
      clear KP hb1
      go_wp2
      go_ret2
      exact ⟨rfl, hB1⟩
end Go.Proofs.Ytmaojcjnpblffaa
