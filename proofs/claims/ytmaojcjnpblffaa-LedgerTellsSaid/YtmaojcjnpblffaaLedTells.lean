/- The walk of LedgerTells. -/
import Derived.Test.YtmaojcjnpblffaaLedTellsW
import Derived.Deep.DeepCutAuto
import Derived.Deep.CutBlock
import Derived.Deep.CutRange
import Derived.Deep.RegionHeld3
namespace Go.Proofs.Ytmaojcjnpblffaa
open Go.RowKit BigFrame
set_option linter.unusedVariables false

theorem gives_nothing {w : World} {n : Int} {e : Ending} {w' : World} (h : GivesLed w (Led.zero, n) e w') : ∃ A c A' c', e = .returned (.tuple #[.agg #[.int .i64 0, .slice A 0 c, .slice A' 0 c'], .int .i64 n]) ∧ Below w.heap.size w w' := by
  obtain ⟨A, c, A', c', he, _, hb⟩ := h
  exact ⟨A, c, A', c', he, hb⟩
theorem Reads.of_zero {w : World} {B size : Nat} {A : Option Addr} : Reads w B size A 0 [] := ⟨by simp, fun h => absurd h (by omega)⟩
theorem same_zero (W : World) (A : Option Addr) (c : Nat) (A' : Option Addr) (c' : Nat) : Calls Try.prog 14 #[.agg #[.int .i64 0, .slice A 0 c, .slice A' 0 c'], .agg #[.int .i64 0, .slice none 0 0, .slice none 0 0]] W fun e w' => e = .returned (.bool true) ∧ Below W.heap.size W w' :=
  same_true 0 [] [] A none A' none 0 c 0 0 c' 0 W ⟨rfl, Reads.of_zero⟩ ⟨rfl, Reads.of_zero⟩ ⟨rfl, Reads.of_zero⟩ ⟨rfl, Reads.of_zero⟩ (by omega) (by omega)

set_option maxRecDepth 100000 in
set_option maxHeartbeats 8000000 in
theorem tells_main (A : Option Addr) (n c : Nat) (A' : Option Addr) (n' c' : Nat) (L : Led) (mo be da ki : Int) (w : World) (h : LedIn w w.heap.size A n A' n' L) (hf : fewB n n' = true) (hv : validB L = true)
    (m0 : -9223372036854775808 ≤ mo ∧ mo ≤ 9223372036854775807) (b0 : -9223372036854775808 ≤ be ∧ be ≤ 9223372036854775807) (k0 : 0 ≤ ki ∧ ki ≤ 255) :
    Calls Try.prog 5 #[.agg #[.int .i64 L.start, .slice A n c, .slice A' n' c'], .int .i64 mo, .int .i64 be, .int .i64 da, .int .u8 ki] w fun e w' => e = .returned (.bool true) ∧ Below w.heap.size w w' := by
  obtain ⟨⟨s0, s1, s2⟩, hdue, hpl, _, _⟩ := valid_here hv
  have hlen := h.due.len
  have hlen' := h.posts.len
  have hf' := of_decide_eq_true hf
  have n40 : n ≤ 40 := by omega
  have n60 : n' ≤ 60 := by omega
  have s1' : L.start ≤ 2400 := by omega
  have KW := fun W => Lib.hid (awake_any W)
  have KF : ∀ W, Hid (Calls Try.prog 18 #[.agg #[.int .i64 L.start, .slice A n c, .slice A' n' c']] W fun e w' => e = .returned (.bool true) ∧ Below W.heap.size W w') := fun W => hf ▸ few_any L.start A n c A' n' c' W h.n0 h.n1
  have KC : ∀ W, Below w.heap.size w W → Hid (Calls Try.prog 19 #[.agg #[.int .i64 L.start, .slice A n c, .slice A' n' c']] W fun e w' => ∃ A1 c1 A2 c2, e = .returned (.agg #[.int .i64 L.start, .slice A1 n c1, .slice A2 n' c2]) ∧ OwnLed w' W.heap.size A1 c1 A2 c2 L ∧ Below W.heap.size W w') := fun W hW =>
    copied_any A n c A' n' c' L W (h.to hW) (by omega) (by omega)
  have KV : ∀ W, Below w.heap.size w W → Hid (Calls Try.prog 15 #[.agg #[.int .i64 L.start, .slice A n c, .slice A' n' c']] W fun e w' => e = .returned (.bool true) ∧ Below W.heap.size W w') := fun W hW => hv ▸ valid_any A n c A' n' c' L W (h.to hW)
  have KP := fun W (hW : Below w.heap.size w W) => Lib.hid (posted_any A n c A' n' c' L mo W (h.to hW) m0)
  have KO := fun W (hW : Below w.heap.size w W) => Lib.hid (open_any A n c A' n' c' L mo W (h.to hW) m0)
  have KB := fun W (hW : Below w.heap.size w W) => Lib.hid (balance_any A n c A' n' c' L be W (h.to hW) b0)
  have KT := fun W (hW : Below w.heap.size w W) => Lib.hid (total_any A n c A' n' c' L ki W (h.to hW) k0)
  have KA : ∀ W, Below w.heap.size w W → Hid (Calls Try.prog 23 #[.agg #[.int .i64 L.start, .slice A n c, .slice A' n' c'], .int .i64 da] W fun e w' => ∃ A1 c1 A2 c2, e = .returned (.tuple #[.agg #[.int .i64 L.start, .slice A1 n c1, .slice A2 (upTo da L.posts).length c2], .int .i64 0]) ∧ OwnLed w' W.heap.size A1 c1 A2 c2 (L.of da) ∧ Below W.heap.size W w') := by
    intro W hW
    have := at_any A n c A' n' c' L da W (h.to hW)
    rw [at_ok hv] at this
    refine this.mono fun e w' ⟨A1, c1, A2, c2, he, ho, hb⟩ => ⟨A1, c1, A2, c2, ?_, ho, hb⟩
    rw [he]
    show Ending.returned (.tuple #[.agg #[.int .i64 L.start, .slice A1 L.due.length c1, .slice A2 (upTo da L.posts).length c2], .int .i64 0]) = _
    rw [hlen]
  have HI := Lib.hid h
  have HV := Lib.hid hv
  have HLEN := Lib.hid hlen
  have HLEN' := Lib.hid hlen'
  have hP : ∃ p1 p2 o1 o2 b1 b2 t1 t2, postedR L mo = (p1, p2) ∧ openR L mo = (o1, o2) ∧ balanceR L be = (b1, b2) ∧ totalR L ki = (t1, t2) := ⟨_, _, _, _, _, _, _, _, rfl, rfl, rfl, rfl⟩
  obtain ⟨p1, p2, o1, o2, b1, b2, t1, t2, hp, ho, hb, ht⟩ := hP
  rw [hp] at KP
  rw [ho] at KO
  rw [hb] at KB
  rw [ht] at KT
  have HP := Lib.hid hp
  have HO := Lib.hid ho
  have HB := Lib.hid hb
  have HT := Lib.hid ht
  clear hp ho hb ht h hv hlen hlen' hf hf' s2 hpl
  go_enter Try.func5, Try.ntmps5
  go_wp2_with fail
  refine (KF _).out.mono ?_
  rintro e w1 ⟨rfl, hb1⟩
  have hB1 : Below w.heap.size w w1 := after (by go_grown) hb1
  have hz1 : w.heap.size < w1.heap.size := Nat.lt_of_lt_of_le (by first | omega | (simp; done) | (simp; omega)) hb1.size
  obtain ⟨f0, f1, f2⟩ := held3 hb1 (b := w.heap.size) (v0 := .int .i64 L.start) (v1 := .slice A n c) (v2 := .slice A' n' c') (by first | omega | (simp; done) | (simp; omega)) (by simp [go_sem])
  have F := Lib.hid (And.intro f0 (And.intro f1 f2))
  clear KF hb1
  go_wp2_with fail
  refine (KC _ hB1).out.mono ?_
  rintro e w2 ⟨A1, c1, A2, c2, rfl, ho2, hb2⟩
  have hB2 := after hB1 hb2
  have F2 := held3 hb2 hz1 F.out
  have hz2 : w.heap.size < w2.heap.size := Nat.lt_of_lt_of_le hz1 hb2.size
  have hw2 : LedIn w2 w2.heap.size A1 n A2 n' L := by
    have := ho2.led HI.out.wfp HI.out.wfd HI.out.s0 HI.out.s1
    rw [HLEN.out, HLEN'.out] at this
    exact this
  clear f0 f1 f2 F KC hb2 ho2
  obtain ⟨f0, f1, f2⟩ := F2
  have KRV : ∀ W, Below w2.heap.size w2 W → Hid (Calls Try.prog 20 #[.agg #[.int .i64 L.start, .slice A1 n c1, .slice A2 n' c2]] W fun e w' => e = .returned (.bool true) ∧ Below W.heap.size W w') := fun W hW => HV.out ▸ rvalid_any A1 n c1 A2 n' c2 L W (hw2.to hW)
  have KRH : ∀ W, Below w2.heap.size w2 W → Hid (Calls Try.prog 24 #[.agg #[.int .i64 L.start, .slice A1 n c1, .slice A2 n' c2], .int .i64 mo] W fun e w' => e = .returned (.bool (hasB L.start n mo)) ∧ Below W.heap.size W w') := fun W hW => rhas_any L.start A1 A2 n c1 n' c2 mo W s0 (by omega) (by omega)
  have KRP := fun W (hW : Below w2.heap.size w2 W) => Lib.hid (rposted_any A1 n c1 A2 n' c2 L mo W (hw2.to hW) HV.out)
  have KRT := fun W (hW : Below w2.heap.size w2 W) => Lib.hid (rtotal_any A1 n c1 A2 n' c2 L ki W (hw2.to hW) HV.out)
  have KRB := fun W (hW : Below w2.heap.size w2 W) => Lib.hid (rbalance_any A1 n c1 A2 n' c2 L be W (hw2.to hW) HV.out)
  have KRA := fun W (hW : Below w2.heap.size w2 W) => Lib.hid (rat_any A1 n c1 A2 n' c2 L da W (hw2.to hW) (by omega))
  have HW2 := Lib.hid hw2
  have HDUE := Lib.hid hdue
  clear hw2 hdue
  generalize hss : L.start = s at *
  have HSS := Lib.hid hss
  clear hss
  go_wp2_with fail
  have hB3 : Below w2.heap.size w2 ((w2.alloc (.cells #[.int .i64 s, .slice A1 n c1, .slice A2 n' c2] 25)).alloc (.cells #[.int .i64 s, .slice A1 n c1, .slice A2 n' c2] 38)) := by go_grown
  have V : ∀ W, Below ((w2.alloc (.cells #[.int .i64 s, .slice A1 n c1, .slice A2 n' c2] 25)).alloc (.cells #[.int .i64 s, .slice A1 n c1, .slice A2 n' c2] 38)).heap.size ((w2.alloc (.cells #[.int .i64 s, .slice A1 n c1, .slice A2 n' c2] 25)).alloc (.cells #[.int .i64 s, .slice A1 n c1, .slice A2 n' c2] 38)) W →
      Hid ((W.cell? ⟨w.heap.size, 0, none⟩ = some (.int .i64 s) ∧ W.cell? ⟨w.heap.size, 1, none⟩ = some (.slice A n c) ∧ W.cell? ⟨w.heap.size, 2, none⟩ = some (.slice A' n' c')) ∧
        (W.cell? ⟨w2.heap.size, 0, none⟩ = some (.int .i64 s) ∧ W.cell? ⟨w2.heap.size, 1, none⟩ = some (.slice A1 n c1) ∧ W.cell? ⟨w2.heap.size, 2, none⟩ = some (.slice A2 n' c2)) ∧
        (W.cell? ⟨w2.heap.size + 1, 0, none⟩ = some (.int .i64 s) ∧ W.cell? ⟨w2.heap.size + 1, 1, none⟩ = some (.slice A1 n c1) ∧ W.cell? ⟨w2.heap.size + 1, 2, none⟩ = some (.slice A2 n' c2))) := by
    intro W hW
    refine ⟨held3 (after hB3 hW) hz2 ⟨f0, f1, f2⟩, held3 hW (by simp; omega) (by simp [go_sem]), held3 hW (by simp) (by simp [go_sem])⟩
  have hs3 : ((w2.alloc (.cells #[.int .i64 s, .slice A1 n c1, .slice A2 n' c2] 25)).alloc (.cells #[.int .i64 s, .slice A1 n c1, .slice A2 n' c2] 38)).heap.size = w2.heap.size + 2 := by simp
  generalize World.alloc (World.alloc w2 _) _ = w3 at *
  have C3 := after hB2 hB3
  refine (KRV _ hB3).out.mono ?_
  rintro e w4 ⟨rfl, hb4⟩
  clear f0 f1 f2 KRV
  obtain ⟨⟨f0, f1, f2⟩, _, _⟩ := (V _ hb4).out
  go_wp2_with fail
  refine (KP _ (after C3 hb4)).out.mono ?_
  rintro e w5 ⟨rfl, hb5⟩
  have E5 := after hb4 hb5
  clear f0 f1 f2 KP
  obtain ⟨⟨f0, f1, f2⟩, _, _⟩ := (V _ E5).out
  go_wp2_with fail
  refine (KO _ (after C3 E5)).out.mono ?_
  rintro e w6 ⟨rfl, hb6⟩
  have E6 := after E5 hb6
  clear f0 f1 f2 KO
  obtain ⟨⟨f0, f1, f2⟩, _, _⟩ := (V _ E6).out
  go_wp2_with fail
  refine (KB _ (after C3 E6)).out.mono ?_
  rintro e w7 ⟨rfl, hb7⟩
  have E7 := after E6 hb7
  clear f0 f1 f2 KB
  obtain ⟨⟨f0, f1, f2⟩, _, _⟩ := (V _ E7).out
  go_wp2_with fail
  refine (KT _ (after C3 E7)).out.mono ?_
  rintro e w8 ⟨rfl, hb8⟩
  have E8 := after E7 hb8
  clear f0 f1 f2 KT hb4 hb5 hb6 hb7 hb8 E5 E6 E7
  obtain ⟨⟨f0, f1, f2⟩, _, _⟩ := (V _ E8).out
  go_wp2_with fail
  refine (KA _ (after C3 E8)).out.mono ?_
  rintro e w9 ⟨A3, c3, A4, c4, rfl, ho9, hb9⟩
  have E9 := after E8 hb9
  have fz : w.heap.size < w9.heap.size := by have := E9.size; omega
  clear f0 f1 f2 KA
  obtain ⟨⟨f0, f1, f2⟩, _, _⟩ := (V _ E9).out
  generalize hu : (upTo da L.posts).length = u at *
  have HU := Lib.hid hu
  clear hu
  go_wp2_with fail
  obtain ⟨cm, zm, mm⟩ := boxed3 w9 (.int .i64 s) (.slice A3 n c3) (.slice A4 u c4) 25
  have mx := Box3.new w9 (.int .i64 s) (.slice A3 n c3) (.slice A4 u c4) 25
  generalize World.alloc w9 _ = wm at *
  have Em := after E9 cm
  refine (KV _ (after C3 Em)).out.mono ?_
  rintro e w10 ⟨rfl, hb10⟩
  have E10 := after Em hb10
  clear f0 f1 f2 KV fz
  obtain ⟨_, _, r0, r1, r2⟩ := (V _ E10).out
  go_wp2_with fail
  refine (KRH _ (after hB3 E10)).out.mono ?_
  rintro e w11 ⟨rfl, hb11⟩
  have E11 := after E10 hb11
  have M11 := after hb10 hb11
  clear r0 r1 r2 KRH hb10 hb11 E10
  obtain ⟨hh, hhe⟩ : ∃ hh, hasB s n mo = hh := ⟨_, rfl⟩
  rw [hhe]
  have HH := Lib.hid hhe
  clear hhe
  go_upto_if 126 with fail
  go_cut [] from 127 to 168 (fun wx => Below w11.heap.size w11 wx)
  case first =>
    cases hh
    · obtain ⟨rfl, rfl⟩ : p1 = 0 ∧ p2 = 6 := by
        have := HP.out; unfold postedR at this; rw [if_neg (by simp [HV.out]), HSS.out, HLEN.out, if_pos HH.out] at this; cases this; exact ⟨rfl, rfl⟩
      obtain ⟨rfl, rfl⟩ : o1 = 0 ∧ o2 = 6 := by
        have := HO.out; unfold openR at this; rw [if_neg (by simp [HV.out]), HSS.out, HLEN.out, if_pos HH.out] at this; cases this; exact ⟨rfl, rfl⟩
      clear KRP KRT KRB KRA V
      go_wp2_with fail
      go_meet
      exact Below.refl _ _
    · have hm := of_decide_eq_true HH.out
      obtain ⟨k, rfl⟩ : ∃ k : Nat, mo = s + k := ⟨(mo - s).toNat, by omega⟩
      have hkn : k < n := by omega
      obtain ⟨rfl, rfl⟩ : p1 = postedV L (s + k) ∧ p2 = 0 := by
        have := HP.out; unfold postedR at this; rw [if_neg (by simp [HV.out]), HSS.out, HLEN.out, if_neg (by rw [HH.out]; simp)] at this; cases this; exact ⟨rfl, rfl⟩
      have HOV : o1 = openV L (s + k) ∧ o2 = 0 := by
        have := HO.out; unfold openR at this; rw [if_neg (by simp [HV.out]), HSS.out, HLEN.out, if_neg (by rw [HH.out]; simp)] at this; cases this; exact ⟨rfl, rfl⟩
      obtain ⟨ho1, rfl⟩ := HOV
      obtain ⟨pb1, pb2⟩ := posted_bd HV.out (s + k)
      obtain ⟨_, r0, r1, r2⟩ := (V _ E11).out
      have hkr := KRP _ (after hB3 E11)
      have hx0 := HW2.out.due.at_ hkn
      obtain ⟨x, b, o, hx, rfl, hbB, cx⟩ := hx0
      have hx1 := HDUE.out x (List.mem_of_getElem? hx)
      have ho3 : openV L (s + k) = x - postedV L (s + k) := by
        unfold openV
        rw [HSS.out, show (s + (k : Int) - s).toNat = k by omega, List.getD_eq_getElem?_getD, hx]
        rfl
      rw [ho3] at ho1
      subst ho1
      have HCX := fun W (hW : Below w2.heap.size w2 W) => Lib.hid ((hW.cell (p := ⟨b, o + k, none⟩) hbB).trans cx)
      obtain ⟨x1, x2⟩ := hx1
      generalize postedV L (s + k) = pv at *
      clear hx cx ho3 KRT KRB KRA KRP
      have ew : IntKind.i64.wrap (s + (k : Int) - s) = k := by rw [show s + (k : Int) - s = k by omega]; exact IntWalk.i64_in _ (by omega)
      have hki : (k : Int) < (n : Int) := by omega
      have hk00 : (0 : Int) ≤ (k : Int) := by omega
      obtain ⟨_, _, q0, q1, q2⟩ := (V _ E11).out
      go_wp2_with fail
      refine hkr.out.mono ?_
      rintro e w12 ⟨rfl, hb12⟩
      have E12 := after E11 hb12
      clear r0 r1 r2 q0 q1 q2
      obtain ⟨_, _, q0, q1, q2⟩ := (V _ E12).out
      have cx := (HCX _ (after hB3 E12)).out
      clear HCX hkr V
      go_wp2_with fail
      go_meet
      exact hb12
  case rest =>
    obtain ⟨w12, rfl⟩ : ∃ w12 : World, w12 = wc := ⟨_, rfl⟩
    have E12 := after E11 hcut
    have M12 := after M11 hcut
    clear KRP HP HO hcut
    obtain ⟨ck, hck⟩ : ∃ ck, decide (ki < 1 ∨ 6 < ki) = ck := ⟨_, rfl⟩
    have HCK := Lib.hid hck
    clear hck
    go_upto_region 20 with fail
    go_cut [174] from 169 to 174 (fun v wx => v = .bool ck ∧ w12 = wx)
    case first =>
      by_cases h1 : ki < 1
      · have : ck = true := by rw [← HCK.out]; simp [h1]
        subst this
        clear HCK
        go_wp2_with fail
        go_meet
        exact ⟨rfl, rfl⟩
      · by_cases h2 : 6 < ki
        · have : ck = true := by rw [← HCK.out]; simp [h2]
          subst this
          clear HCK
          go_wp2_with fail
          go_meet
          exact ⟨rfl, rfl⟩
        · have : ck = false := by rw [← HCK.out]; simp [h1, h2]
          subst this
          clear HCK
          go_wp2_with fail
          go_meet
          exact ⟨rfl, rfl⟩
    case rest =>
      obtain ⟨rfl, rfl⟩ := hcut
      go_upto_if 174 with fail
      go_cut [] from 175 to 189 (fun wx => Below w12.heap.size w12 wx)
      case first =>
        cases ck
        · have hc := of_decide_eq_false HCK.out
          obtain ⟨rfl, rfl⟩ : t1 = totalV L ki ∧ t2 = 0 := by
            have := HT.out; unfold totalR at this; rw [if_neg (by simp [HV.out]; omega)] at this; cases this; exact ⟨rfl, rfl⟩
          have kr := KRT _ (after hB3 E12)
          obtain ⟨_, _, q0, q1, q2⟩ := (V _ E12).out
          generalize totalV L ki = tv at *
          clear KRT KRB KRA V
          go_wp2_with fail
          refine kr.out.mono ?_
          rintro e w13 ⟨rfl, hb13⟩
          clear kr
          go_wp2_with fail
          go_meet
          exact hb13
        · have hc := of_decide_eq_true HCK.out
          obtain ⟨rfl, rfl⟩ : t1 = 0 ∧ t2 = 2 := by
            have := HT.out; unfold totalR at this; rw [if_pos (.inr hc)] at this; cases this; exact ⟨rfl, rfl⟩
          clear KRT KRB KRA V
          go_wp2_with fail
          go_meet
          exact Below.refl _ _
      case rest =>
        obtain ⟨w13, rfl⟩ : ∃ w13 : World, w13 = wc := ⟨_, rfl⟩
        have E13 := after E12 hcut
        have M13 := after M12 hcut
        clear KRT HT hcut HCK
        obtain ⟨rfl, rfl⟩ : b1 = balanceV L be ∧ b2 = 0 := by
          have := HB.out; unfold balanceR at this; rw [if_neg (by simp [HV.out])] at this; cases this; exact ⟨rfl, rfl⟩
        have hm9 : LedIn w9 w9.heap.size A3 n A4 u (L.of da) := by
          have := ho9.led (fun p hp => HI.out.wfp p (List.mem_filter.1 hp).1) HI.out.wfd HI.out.s0 HI.out.s1
          rw [show (L.of da).due.length = n from HLEN.out, show (L.of da).posts.length = u from HU.out] at this
          exact this
        have hul : u ≤ n' := by rw [← HU.out, ← HLEN'.out]; exact List.length_filter_le _ _
        have KSx : ∀ A5 c5 W, Below w13.heap.size w13 W → W.ownsRow w13.heap.size 47 4 (.slice A5 u c5) u (paids (upTo da L.posts)) → Hid (Calls Try.prog 14 #[.agg #[.int .i64 s, .slice A3 n c3, .slice A4 u c4], .agg #[.int .i64 s, .slice A1 n c1, .slice A5 u c5]] W fun e w' => e = .returned (.bool true) ∧ Below W.heap.size W w') := fun A5 c5 W hW ho =>
          same_true s L.due (upTo da L.posts) A3 A1 A4 A5 n c3 c1 u c4 c5 W (hm9.to (after cm (after M13 hW))).due (HW2.out.to (after hB3 (after E13 hW))).due (hm9.to (after cm (after M13 hW))).posts ⟨HU.out, Reads.of_own ho⟩ (by omega) (by omega)
        have KSy : ∀ A5 c5 W0 W, Below w13.heap.size w13 W0 → Below w13.heap.size w13 W → W.ownsRow W0.heap.size 47 4 (.slice A5 u c5) u (paids (upTo da L.posts)) → Hid (Calls Try.prog 14 #[.agg #[.int .i64 s, .slice A3 n c3, .slice A4 u c4], .agg #[.int .i64 s, .slice A1 n c1, .slice A5 u c5]] W fun e w' => e = .returned (.bool true) ∧ Below W.heap.size W w') := fun A5 c5 W0 W h0 hW ho => KSx A5 c5 W hW (own_more ho h0.size)
        have KBx := fun W (hW : Below w13.heap.size w13 W) => KRB W (after hB3 (after E13 hW))
        have KAx := fun W (hW : Below w13.heap.size w13 W) => KRA W (after hB3 (after E13 hW))
        have KS := fun W (hW : Below w13.heap.size w13 W) => (And.intro (V W (after E13 hW)).out.2.2 (mx.kept (after M13 hW) zm).1)
        have kk1 : ∀ k, (Value.slice A3 n c3).ownBlock = some k → w8.heap.size ≤ k ∧ k < w9.heap.size := fun k hk => by
          have h1 := ho9.due
          rw [show (L.of da).due.length = n from HLEN.out] at h1
          exact h1.lt k hk
        have kk2 : ∀ k, (Value.slice A4 u c4).ownBlock = some k → w8.heap.size ≤ k ∧ k < w9.heap.size := fun k hk => by
          have h1 := ho9.posts
          rw [show (L.of da).posts.length = u from HU.out] at h1
          exact h1.lt k hk
        have HO9 := Lib.hid ho9
        have KK1 := Lib.hid kk1
        have KK2 := Lib.hid kk2
        generalize balanceV L be = bv at *
        clear KRB KRA HB KSx hm9 ho9 kk1 kk2
        go_upto_region 25 with fail
        have KS' := KS _ (Below.refl _ _)
        go_region_held3 (fun W => (W.cell? ⟨w2.heap.size + 1, 0, none⟩ = some (.int .i64 s) ∧ W.cell? ⟨w2.heap.size + 1, 1, none⟩ = some (.slice A1 n c1) ∧ W.cell? ⟨w2.heap.size + 1, 2, none⟩ = some (.slice A2 n' c2)) ∧ W.cell? ⟨w9.heap.size, 0, none⟩ = some (.int .i64 s) ∧ W.cell? ⟨w9.heap.size, 1, none⟩ = some (.slice A3 n c3) ∧ W.cell? ⟨w9.heap.size, 2, none⟩ = some (.slice A4 u c4)) (first | exact hSs | exact hSa | exact hSb | exact KS' | exact KS _ (by go_grown)) (first | (go_at_call 27; refine (KBx _ (by go_grown)).out.mono ?_; rintro e wb ⟨rfl, hbb⟩; have hb14 : Below w13.heap.size w13 wb := after (by go_grown) hbb; have hSb := KS _ hb14) | (go_at_call 28; refine (KAx _ hb14).out.mono ?_; rintro e wa ⟨A5, c5, rfl, ho5, hba⟩; have hb15 := after hb14 hba; have hSa := KS _ hb15) | (go_at_call 14; refine (KSy _ _ _ _ hb14 hb15 ho5).out.mono ?_; rintro e ws ⟨rfl, hbs⟩; have hb16 := after hb15 hbs; have hSs := KS _ hb16))
        have Es : Below w3.heap.size w3 ws := after E13 hb16
        have hI : Inc ws w8.heap.size w9.heap.size s A3 n c3 A4 u c4 ws := by
          have ho := HO9.out.kept (after cm (after M13 hb16)) (Nat.le_refl _)
          have hd := ho.due
          have hp := ho.posts
          rw [show (L.of da).due.length = n from HLEN.out] at hd
          rw [show (L.of da).posts.length = u from HU.out] at hp
          refine ⟨Below.refl _ _, mx.kept (after M13 hb16) zm, ⟨_, hd, ?_⟩, ⟨_, hp, ?_⟩, KK1.out, KK2.out⟩
          · have := IntAt.ints L.due
            rw [HLEN.out] at this
            exact this
          · have := IntAt.paids (upTo da L.posts)
            rw [HU.out] at this
            exact this
        have KSl : ∀ W, Below w3.heap.size w3 W → Hid (Calls Try.prog 14 #[.agg #[.int .i64 s, .slice A n c, .slice A' n' c'], .agg #[.int .i64 s, .slice A1 n c1, .slice A2 n' c2]] W fun e w' => e = .returned (.bool true) ∧ Below W.heap.size W w') := fun W hW =>
          same_true s L.due L.posts A A1 A' A2 n c c1 n' c' c2 W (HI.out.to (after C3 hW)).due (HW2.out.to (after hB3 hW)).due (HI.out.to (after C3 hW)).posts (HW2.out.to (after hB3 hW)).posts (by omega) (by omega)
        obtain ⟨⟨x0, x1, x2⟩, y0, y1, y2⟩ := hI.box
        have HII := Lib.hid hI
        have hs8 := E8.size
        clear KSy KBx KAx KS KS' hSs hSa hSb ho5 hI mx
        go_wp2_with fail
        go_loopw [214] (fun i wr => ∃ k : Nat, k ≤ n ∧ i = .int .i64 k ∧ Inc ws w8.heap.size w9.heap.size s A3 n c3 A4 u c4 wr) (fun i _ => n - (intOf i).toNat)
        case atStart => exact ⟨0, Nat.zero_le _, rfl, HII.out⟩
        case round =>
          obtain ⟨k, hk, rfl, hi⟩ := hrel
          clear x0 x1 x2 y0 y1 y2
          obtain ⟨⟨x0, x1, x2⟩, y0, y1, y2⟩ := hi.box
          have Hi := Lib.hid hi
          by_cases hlt : k < n
          · obtain ⟨g, v, rfl, hgl, z0, z1⟩ := hi.see1 hlt
            have hki : (k : Int) < (n : Int) := by omega
            clear hi
            go_wp2_with fail
            go_roundw
            case rel => exact ⟨k + 1, by omega, by go_num, Hi.out.one hlt _⟩
            case measure => simp [intOf]; omega
          · clear hi
            go_wp2_with fail
            obtain ⟨wo, rfl⟩ : ∃ wo : World, wo = wr := ⟨_, rfl⟩
            go_loopw [228] (fun i wr => ∃ k : Nat, k ≤ u ∧ i = .int .i64 k ∧ Inc ws w8.heap.size w9.heap.size s A3 n c3 A4 u c4 wr) (fun i _ => u - (intOf i).toNat)
            case atStart => exact ⟨0, Nat.zero_le _, rfl, Hi.out⟩
            case round =>
              obtain ⟨j, hj, rfl, hi⟩ := hrel
              clear x0 x1 x2 y0 y1 y2
              obtain ⟨⟨x0, x1, x2⟩, y0, y1, y2⟩ := hi.box
              have Hi2 := Lib.hid hi
              by_cases hlt2 : j < u
              · obtain ⟨g, v, rfl, hgl, z0, z1⟩ := hi.see2 hlt2
                have hki : (j : Int) < (u : Int) := by omega
                clear hi
                go_wp2_with fail
                go_roundw
                case rel => exact ⟨j + 1, by omega, by go_num, Hi2.out.two hlt2 _⟩
                case measure => simp [intOf]; omega
              · have Ew : Below w3.heap.size w3 wr := Es.trans (hi.below.mono hs8)
                obtain ⟨⟨f0, f1, f2⟩, ⟨g0, g1, g2⟩, _⟩ := (V _ Ew).out
                clear hi x0 x1 x2 y0 y1 y2
                go_wp2_with fail
                refine (KSl _ Ew).out.mono ?_
                rintro e wy ⟨rfl, hby⟩
                clear f0 f1 f2 g0 g1 g2
                go_wp2_with fail
                refine (KW _).out.mono ?_
                rintro e wz ⟨rfl, hbz⟩
                have B9 := after C3 (after Ew (after hby hbz))
                go_wp2
                go_ret
                exact ⟨rfl, B9⟩

set_option maxRecDepth 100000 in
set_option maxHeartbeats 4000000 in
theorem tells_bad (A : Option Addr) (n c : Nat) (A' : Option Addr) (n' c' : Nat) (L : Led) (mo be da ki : Int) (w : World) (h : LedIn w w.heap.size A n A' n' L) (hf : fewB n n' = true) (hv : validB L = false)
    (m0 : -9223372036854775808 ≤ mo ∧ mo ≤ 9223372036854775807) (b0 : -9223372036854775808 ≤ be ∧ be ≤ 9223372036854775807) (k0 : 0 ≤ ki ∧ ki ≤ 255) :
    Calls Try.prog 5 #[.agg #[.int .i64 L.start, .slice A n c, .slice A' n' c'], .int .i64 mo, .int .i64 be, .int .i64 da, .int .u8 ki] w fun e w' => e = .returned (.bool true) ∧ Below w.heap.size w w' := by
  have hf' := of_decide_eq_true hf
  have hlen := h.due.len
  have hlen' := h.posts.len
  have n40 : n ≤ 1202 := by omega
  have n60 : n' ≤ 4002 := by omega
  have KW := fun W => Lib.hid (awake_any W)
  have KF : ∀ W, Hid (Calls Try.prog 18 #[.agg #[.int .i64 L.start, .slice A n c, .slice A' n' c']] W fun e w' => e = .returned (.bool true) ∧ Below W.heap.size W w') := fun W => hf ▸ few_any L.start A n c A' n' c' W h.n0 h.n1
  have KC : ∀ W, Below w.heap.size w W → Hid (Calls Try.prog 19 #[.agg #[.int .i64 L.start, .slice A n c, .slice A' n' c']] W fun e w' => ∃ A1 c1 A2 c2, e = .returned (.agg #[.int .i64 L.start, .slice A1 n c1, .slice A2 n' c2]) ∧ OwnLed w' W.heap.size A1 c1 A2 c2 L ∧ Below W.heap.size W w') := fun W hW =>
    copied_any A n c A' n' c' L W (h.to hW) (by omega) (by omega)
  have KV : ∀ W, Below w.heap.size w W → Hid (Calls Try.prog 15 #[.agg #[.int .i64 L.start, .slice A n c, .slice A' n' c']] W fun e w' => e = .returned (.bool false) ∧ Below W.heap.size W w') := fun W hW => hv ▸ valid_any A n c A' n' c' L W (h.to hW)
  have KP : ∀ W, Below w.heap.size w W → Hid (Calls Try.prog 21 #[.agg #[.int .i64 L.start, .slice A n c, .slice A' n' c'], .int .i64 mo] W fun e w' => e = .returned (.tuple #[.int .i64 0, .int .i64 2]) ∧ Below W.heap.size W w') := by
    intro W hW
    have := posted_any A n c A' n' c' L mo W (h.to hW) m0
    rw [show postedR L mo = (0, 2) by unfold postedR; rw [if_pos hv]] at this
    exact this
  have KO : ∀ W, Below w.heap.size w W → Hid (Calls Try.prog 16 #[.agg #[.int .i64 L.start, .slice A n c, .slice A' n' c'], .int .i64 mo] W fun e w' => e = .returned (.tuple #[.int .i64 0, .int .i64 2]) ∧ Below W.heap.size W w') := by
    intro W hW
    have := open_any A n c A' n' c' L mo W (h.to hW) m0
    rw [show openR L mo = (0, 2) by unfold openR; rw [if_pos hv]] at this
    exact this
  have KB : ∀ W, Below w.heap.size w W → Hid (Calls Try.prog 17 #[.agg #[.int .i64 L.start, .slice A n c, .slice A' n' c'], .int .i64 be] W fun e w' => e = .returned (.tuple #[.int .i64 0, .int .i64 2]) ∧ Below W.heap.size W w') := by
    intro W hW
    have := balance_any A n c A' n' c' L be W (h.to hW) b0
    rw [show balanceR L be = (0, 2) by unfold balanceR; rw [if_pos hv]] at this
    exact this
  have KT : ∀ W, Below w.heap.size w W → Hid (Calls Try.prog 22 #[.agg #[.int .i64 L.start, .slice A n c, .slice A' n' c'], .int .u8 ki] W fun e w' => e = .returned (.tuple #[.int .i64 0, .int .i64 2]) ∧ Below W.heap.size W w') := by
    intro W hW
    have := total_any A n c A' n' c' L ki W (h.to hW) k0
    rw [show totalR L ki = (0, 2) by unfold totalR; rw [if_pos (.inl hv)]] at this
    exact this
  have KA : ∀ W, Below w.heap.size w W → Hid (Calls Try.prog 23 #[.agg #[.int .i64 L.start, .slice A n c, .slice A' n' c'], .int .i64 da] W fun e w' => ∃ A1 c1 A2 c2, e = .returned (.tuple #[.agg #[.int .i64 0, .slice A1 0 c1, .slice A2 0 c2], .int .i64 2]) ∧ Below W.heap.size W w') := by
    intro W hW
    have := at_any A n c A' n' c' L da W (h.to hW)
    rw [show atR L da = (Led.zero, 2) by unfold atR; rw [if_pos hv]] at this
    exact this.mono fun _ _ h => gives_nothing h
  have HI := Lib.hid h
  have HV := Lib.hid hv
  have HLEN := Lib.hid hlen
  have HLEN' := Lib.hid hlen'
  clear h hv hlen hlen' hf hf'
  go_enter Try.func5, Try.ntmps5
  go_wp2_with fail
  refine (KF _).out.mono ?_
  rintro e w1 ⟨rfl, hb1⟩
  have hB1 : Below w.heap.size w w1 := after (by go_grown) hb1
  have hz1 : w.heap.size < w1.heap.size := Nat.lt_of_lt_of_le (by first | omega | (simp; done) | (simp; omega)) hb1.size
  obtain ⟨f0, f1, f2⟩ := held3 hb1 (b := w.heap.size) (v0 := .int .i64 L.start) (v1 := .slice A n c) (v2 := .slice A' n' c') (by first | omega | (simp; done) | (simp; omega)) (by simp [go_sem])
  have F := Lib.hid (And.intro f0 (And.intro f1 f2))
  clear KF hb1
  go_wp2_with fail
  refine (KC _ hB1).out.mono ?_
  rintro e w2 ⟨A1, c1, A2, c2, rfl, ho2, hb2⟩
  have hB2 := after hB1 hb2
  have F2 := held3 hb2 hz1 F.out
  have hz2 : w.heap.size < w2.heap.size := Nat.lt_of_lt_of_le hz1 hb2.size
  have hw2 : LedIn w2 w2.heap.size A1 n A2 n' L := by
    have := ho2.led HI.out.wfp HI.out.wfd HI.out.s0 HI.out.s1
    rw [HLEN.out, HLEN'.out] at this
    exact this
  clear f0 f1 f2 F KC hb2 ho2
  obtain ⟨f0, f1, f2⟩ := F2
  have KRV : ∀ W, Below w2.heap.size w2 W → Hid (Calls Try.prog 20 #[.agg #[.int .i64 L.start, .slice A1 n c1, .slice A2 n' c2]] W fun e w' => e = .returned (.bool false) ∧ Below W.heap.size W w') := fun W hW => HV.out ▸ rvalid_any A1 n c1 A2 n' c2 L W (hw2.to hW)
  clear hw2
  generalize hss : L.start = s at *
  clear hss
  go_wp2_with fail
  have hB3 : Below w2.heap.size w2 ((w2.alloc (.cells #[.int .i64 s, .slice A1 n c1, .slice A2 n' c2] 25)).alloc (.cells #[.int .i64 s, .slice A1 n c1, .slice A2 n' c2] 38)) := by go_grown
  have V : ∀ W, Below ((w2.alloc (.cells #[.int .i64 s, .slice A1 n c1, .slice A2 n' c2] 25)).alloc (.cells #[.int .i64 s, .slice A1 n c1, .slice A2 n' c2] 38)).heap.size ((w2.alloc (.cells #[.int .i64 s, .slice A1 n c1, .slice A2 n' c2] 25)).alloc (.cells #[.int .i64 s, .slice A1 n c1, .slice A2 n' c2] 38)) W →
      Hid (W.cell? ⟨w.heap.size, 0, none⟩ = some (.int .i64 s) ∧ W.cell? ⟨w.heap.size, 1, none⟩ = some (.slice A n c) ∧ W.cell? ⟨w.heap.size, 2, none⟩ = some (.slice A' n' c')) := by
    intro W hW
    exact held3 (after hB3 hW) hz2 ⟨f0, f1, f2⟩
  have hs3 : ((w2.alloc (.cells #[.int .i64 s, .slice A1 n c1, .slice A2 n' c2] 25)).alloc (.cells #[.int .i64 s, .slice A1 n c1, .slice A2 n' c2] 38)).heap.size = w2.heap.size + 2 := by simp
  generalize World.alloc (World.alloc w2 _) _ = w3 at *
  have C3 := after hB2 hB3
  refine (KRV _ hB3).out.mono ?_
  rintro e w4 ⟨rfl, hb4⟩
  clear f0 f1 f2 KRV
  obtain ⟨f0, f1, f2⟩ := (V _ hb4).out
  go_wp2_with fail
  refine (KP _ (after C3 hb4)).out.mono ?_
  rintro e w5 ⟨rfl, hb5⟩
  have E5 := after hb4 hb5
  clear f0 f1 f2 KP
  obtain ⟨f0, f1, f2⟩ := (V _ E5).out
  go_wp2_with fail
  refine (KO _ (after C3 E5)).out.mono ?_
  rintro e w6 ⟨rfl, hb6⟩
  have E6 := after E5 hb6
  clear f0 f1 f2 KO
  obtain ⟨f0, f1, f2⟩ := (V _ E6).out
  go_wp2_with fail
  refine (KB _ (after C3 E6)).out.mono ?_
  rintro e w7 ⟨rfl, hb7⟩
  have E7 := after E6 hb7
  clear f0 f1 f2 KB
  obtain ⟨f0, f1, f2⟩ := (V _ E7).out
  go_wp2_with fail
  refine (KT _ (after C3 E7)).out.mono ?_
  rintro e w8 ⟨rfl, hb8⟩
  have E8 := after E7 hb8
  clear f0 f1 f2 KT hb4 hb5 hb6 hb7 hb8 E5 E6 E7
  obtain ⟨f0, f1, f2⟩ := (V _ E8).out
  go_wp2_with fail
  refine (KA _ (after C3 E8)).out.mono ?_
  rintro e w9 ⟨A3, c3, A4, c4, rfl, hb9⟩
  have E9 := after E8 hb9
  have fz : w.heap.size < w9.heap.size := by have := E9.size; omega
  clear f0 f1 f2 KA
  obtain ⟨f0, f1, f2⟩ := (V _ E9).out
  go_wp2_with fail
  obtain ⟨cm, zm, mm⟩ := boxed3 w9 (.int .i64 0) (.slice A3 0 c3) (.slice A4 0 c4) 25
  generalize World.alloc w9 _ = wm at *
  have Em := after E9 cm
  refine (KV _ (after C3 Em)).out.mono ?_
  rintro e w10 ⟨rfl, hb10⟩
  have E10 := after Em hb10
  clear f0 f1 f2 KV fz V
  obtain ⟨f0, f1, f2⟩ := held3 hb10 zm mm
  have KZ := Lib.hid (same_zero w10 A3 c3 A4 c4)
  clear mm
  go_wp2_with fail
  refine KZ.out.mono ?_
  rintro e w11 ⟨rfl, hb11⟩
  clear f0 f1 f2 KZ
  go_wp2_with fail
  refine (KW _).out.mono ?_
  rintro e w12 ⟨rfl, hb12⟩
  have B9 := after C3 (after E10 (after hb11 hb12))
  go_wp2
  go_ret
  exact ⟨rfl, B9⟩

set_option maxRecDepth 100000 in
set_option maxHeartbeats 1000000 in
theorem tells_walk (A : Option Addr) (n c : Nat) (A' : Option Addr) (n' c' : Nat) (L : Led) (mo be da ki : Int) (w : World) (h : LedIn w w.heap.size A n A' n' L)
    (m0 : -9223372036854775808 ≤ mo ∧ mo ≤ 9223372036854775807) (b0 : -9223372036854775808 ≤ be ∧ be ≤ 9223372036854775807) (k0 : 0 ≤ ki ∧ ki ≤ 255) :
    Calls Try.prog 5 #[.agg #[.int .i64 L.start, .slice A n c, .slice A' n' c'], .int .i64 mo, .int .i64 be, .int .i64 da, .int .u8 ki] w fun e w' => e = .returned (.bool true) ∧ Below w.heap.size w w' := by
  cases hf : fewB n n'
  · have KF : ∀ W, Hid (Calls Try.prog 18 #[.agg #[.int .i64 L.start, .slice A n c, .slice A' n' c']] W fun e w' => e = .returned (.bool false) ∧ Below W.heap.size W w') := fun W => hf ▸ few_any L.start A n c A' n' c' W h.n0 h.n1
    have KW := fun W => Lib.hid (awake_any W)
    clear h hf
    go_enter Try.func5, Try.ntmps5
    go_wp2_with fail
    refine (KF _).out.mono ?_
    rintro e w1 ⟨rfl, hb1⟩
    have hB1 : Below w.heap.size w w1 := after (by go_grown) hb1
    clear KF hb1
    go_wp2_with fail
    refine (KW _).out.mono ?_
    rintro e w2 ⟨rfl, hb2⟩
    have hB2 := after hB1 hb2
    go_wp2
    go_ret
    exact ⟨rfl, hB2⟩
  · cases hv : validB L
    · exact tells_bad A n c A' n' c' L mo be da ki w h hf hv m0 b0 k0
    · exact tells_main A n c A' n' c' L mo be da ki w h hf hv m0 b0 k0
end Go.Proofs.Ytmaojcjnpblffaa
