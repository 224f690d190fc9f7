/- JournalRead: the walk. -/
import Derived.Test.YtbkicepkkcambaaJouP
namespace Go.Proofs.Ytbkicepkkcambaa
open Go.RowKit BigFrame Go.Shelf
set_option linter.unusedVariables false
set_option linter.unusedSimpArgs false

/-- What holds of the records of data. -/
theorem scan_parts (d : Bytes) : (∀ p ∈ scan d, p.length ≤ 4096) ∧ sizes (scan d) ≤ d.length ∧ nextR (d.drop (sizes (scan d))) ((scan d).length + 1) = none ∧ d.take (sizes (scan d)) = bytesOf 1 (scan d) := by
  obtain ⟨h1, h2, h3, h4⟩ := scanAt_sound (d.length + 1) d 1 (by omega)
  rw [← scan_eq] at h1 h2 h3 h4
  refine ⟨h2, h3, by rwa [Nat.add_comm], ?_⟩
  have hl := bytesOf_length (scan d) 1
  generalize scan d = l at *
  conv => lhs; rw [h1]
  rw [List.take_left' hl]
theorem scan_again (d : Bytes) : scan (d.take (sizes (scan d))) = scan d := by
  obtain ⟨h1, h2, h3, h4⟩ := scan_parts d
  have := scan_short d
  have h5 := scanAt_bytes (scan d) 1 [] h1 (by omega)
  rw [List.append_nil, ← h4, ← scan_eq] at h5
  rw [h5, scanAt_none (nextR_nil _), List.append_nil]
/-- The bytes of one of them. -/
theorem scan_one {d : Bytes} {i : Nat} {p : Bytes} (h : (scan d)[i]? = some p) : (d.drop (sizes ((scan d).take i))).take (p.length + 10) = formed (i + 1) p ∧ p.length ≤ 4096 ∧ i < 65536 ∧ sizes ((scan d).take i) + (p.length + 10) ≤ sizes (scan d) := by
  have hi := (List.getElem?_eq_some_iff.1 h).1
  have hn := next_at (d := d) (j := i) (by omega)
  rw [h] at hn
  obtain ⟨h1, h2, _, h4, h5⟩ := nextR_some hn
  refine ⟨by rw [h5, take_formed], h2, by omega, ?_⟩
  have := sizes_take (scan d) (i + 1)
  rw [sizes_snoc _ _ _ h] at this
  exact this

theorem sizes_len (l : List Bytes) : l.length * 10 ≤ sizes l := by
  induction l with
  | nil => simp
  | cons p l ih => rw [sizes_cons, List.length_cons]; omega
theorem form_good (A : Option Addr) (n c k m : Nat) (kk : Int) (x F : Bytes) (w : World) (h : Bys w w.heap.size A n x) (hk : 1 ≤ k) (hk' : k ≤ 65536) (hn : n ≤ 4096) (hkk : kk = k) (hm : n + 10 = m) (hF : formed k x = F) :
    Calls Try.prog 23 #[.int .i64 kk, .slice A n c] w fun e w' => ∃ A' c', e = .returned (.tuple #[.slice A' m c', .int .i64 0]) ∧ w'.ownsRow w.heap.size 5 1 (.slice A' m c') m (bys F) ∧ Below w.heap.size w w' := by
  subst hkk hm hF
  have hfx : formR (k : Int) x = (formed k x, 0) := by
    unfold formR
    rw [if_neg (by have := h.len; omega)]
    rfl
  have hl : (formed k x).length = n + 10 := by rw [formed_length, h.len]
  refine (form_any A n c k x w h (by omega)).mono ?_
  rw [hfx]
  rintro e w' ⟨A1, c1, rfl, ho, hb⟩
  dsimp only at ho ⊢
  rw [hl] at ho ⊢
  exact ⟨A1, c1, rfl, ho, hb⟩
set_option maxRecDepth 100000 in
set_option maxHeartbeats 4000000 in
theorem read_walk (A : Option Addr) (n c : Nat) (d : Bytes) (w : World) (h : Bys w w.heap.size A n d) (hnc : n ≤ c) (hc63 : c ≤ 9223372036854775807) :
    Calls Try.prog 7 #[.slice A n c] w fun e w' => e = .returned (.bool true) ∧ Below w.heap.size w w' := by
  have HH := Lib.hid h
  clear h
  by_cases h5 : 5000 < n
  · have i5 : (5000 : Int) < n := by omega
    go_enter Try.func7, Try.ntmps7
    go_wp2_with fail
    refine (awake_any w).mono ?_
    rintro e w1 ⟨rfl, hb1⟩
    go_wp2_with fail
    go_ret
    exact ⟨rfl, hb1⟩
  · have i5 : (n : Int) ≤ 5000 := by omega
    obtain ⟨hp1, hp2, hp3, hp4⟩ := scan_parts d
    rw [HH.out.len] at hp2
    have hsh := scan_short d
    go_enter Try.func7, Try.ntmps7
    go_wp2_with fail
    refine (awake_any w).mono ?_
    rintro e w1 ⟨rfl, hb1⟩
    have KS := Lib.hid (scan_any A n c d w1 (HH.out.to hb1) (by omega) hnc hc63)
    obtain ⟨l, hl⟩ : ∃ l, scan d = l := ⟨_, rfl⟩
    obtain ⟨E, hE⟩ : ∃ E, sizes l = E := ⟨_, rfl⟩
    rw [hl, hE] at KS
    rw [hl] at hp1 hp2 hp3 hp4 hsh
    rw [hE] at hp2 hp3 hp4
    have HL := Lib.hid hl
    have HE := Lib.hid hE
    have HP := Lib.hid (⟨hp1, hp3, hp4⟩ : _ ∧ _ ∧ _)
    have HB1 := Lib.hid hb1
    have b1 : E ≤ 5000 := by omega
    clear hl hE hp1 hp3 hp4 hb1 h5
    go_wp2_with fail
    refine KS.out.mono ?_
    rintro e w2 ⟨A2, c2, vs, rfl, ho2, ht2, hb2⟩
    have HT := Lib.hid (Tx.of_own ho2 ht2)
    have HB2 := Lib.hid (after HB1.out hb2)
    clear ho2 ht2 hb2 KS
    have i6 : (E : Int) ≤ n := by omega
    have d1 : decide ((E : Int) < 0) = false := by rw [decide_eq_false_iff_not]; omega
    have d2 : decide (n < E) = false := by rw [decide_eq_false_iff_not]; omega
    go_wp2_with fail
    go_loopw [5, 6] (fun a i wr => ∃ k : Nat, k ≤ l.length ∧ i = .int .i64 k ∧ a = .int .i64 ((sizes (l.take k) : Nat) : Int) ∧ Below w2.heap.size w2 wr) (fun _ i _ => l.length - (intOf i).toNat)
    case atStart => exact ⟨0, Nat.zero_le _, rfl, by simp [sizes], Below.refl _ _⟩
    case round =>
      obtain ⟨k, hk, rfl, rfl, hb⟩ := hrel
      by_cases hlt : k < l.length
      · obtain ⟨x, b, o, A3, c3, hx, hAe, hbB, cx, hx1, hx2, bx⟩ := (HT.out.to hb).at_ hlt
        subst hAe
        obtain ⟨s1, s2, s3, s4⟩ := scan_one (HL.out ▸ hx)
        rw [HL.out] at s1 s4
        rw [HE.out] at s4
        have hsn := sizes_snoc _ _ _ hx
        obtain ⟨at_, hat⟩ : ∃ a, sizes (l.take k) = a := ⟨_, rfl⟩
        obtain ⟨F, hF⟩ : ∃ F, formed (k + 1) x = F := ⟨_, rfl⟩
        obtain ⟨m, hm⟩ : ∃ m, x.length + 10 = m := ⟨_, rfl⟩
        have KF := Lib.hid (form_good A3 x.length c3 (k + 1) m ((k : Int) + 1) x F wr bx (by omega) (by omega) s2 (by omega) hm hF)
        rw [hat] at s1 s4 hsn ⊢
        rw [hm] at s1 s4 hsn
        rw [hF] at s1
        have hd0 := HH.out.at_ (i := at_) (by omega)
        obtain ⟨_, b0, o0, _, hA0, _, _⟩ := hd0
        have HAT := Lib.hid hsn
        have hds : Bys w w.heap.size (some ⟨b0, o0 + at_, none⟩) m F := by
          have := (hA0 ▸ HH.out).part (i := at_) (k := m) (by omega)
          rwa [s1] at this
        have HDS := Lib.hid hds
        have Hb := Lib.hid hb
        have HA0 := Lib.hid hA0
        have b2 : at_ + m ≤ E := s4
        have b3 : 10 ≤ m := by omega
        clear hx hx1 bx hsn s1 hat hF hds s2 s3 s4 hm
        have hki : (k : Int) < (l.length : Int) := by omega
        have HB3 := Lib.hid (after HB2.out hb)
        clear hb
        go_wp2_with fail
        refine KF.out.mono ?_
        rintro e w3 ⟨A4, c4, rfl, ho4, hb4⟩
        have hb5 := after HB3.out hb4
        have HB5 := Lib.hid hb5
        have HB4 := Lib.hid (after Hb.out hb4)
        have by4 := Bys.of_own ho4
        have V1 : ∀ p : Later w3, (convert 25 9 (.slice A4 m c4)).run Try.prog p.val = .ok (.string ⟨F.toArray⟩) p.val := fun p => (by4.to p.ok).conv _ 5 _ _ Try.underlying25 Try.underlying5 Try.underlying9
        have V2 : ∀ p : Later w3, (convert 25 9 (.slice (some ⟨b0, o0 + at_, none⟩) m (c - at_))).run Try.prog p.val = .ok (.string ⟨F.toArray⟩) p.val := fun p => ((HDS.out.to hb5).to p.ok).conv _ 5 _ _ Try.underlying25 Try.underlying5 Try.underlying9
        clear ho4 hb4 by4 hb5 KF
        subst hA0
        have j1 : IntKind.i64.wrap ((at_ : Int) + (m : Int)) = (at_ : Int) + m := IntWalk.i64_in _ (by omega)
        have j3 : ((at_ : Int) + (m : Int)).toNat = at_ + m := by omega
        have j5 : (0 : Int) ≤ (at_ : Int) + (m : Int) := by omega
        have j6 : (at_ : Int) ≤ (at_ : Int) + (m : Int) := by omega
        have j7 : (at_ : Int) + (m : Int) ≤ (n : Int) := by omega
        have j8 : (at_ : Int) + (m : Int) ≤ (c : Int) := by omega
        have j9 : (at_ : Int) + (m : Int) ≤ (E : Int) := by omega
        have j10 : at_ + m - at_ = m := by omega
        have j11 : ¬ c = at_ := by omega
        have j12 : ¬ c - at_ = 0 := by omega
        have j13 : ¬ c ≤ at_ := by omega
        go_wp2_with fail
        (refine wp_region_later (by kernel_rfl) (by kernel_rfl) ?_; (repeat (first | go_big_quiet_step ((fail)) | quiet_step ((fail)))); refine wpQuiet_nil ?_; intro _ hw1; obtain ⟨pq, hw2⟩ := hw1; subst hw2)
        clear V1 V2 j1 j3 j5 j6 j7 j8 j9 j10 j11 j12 j13
        go_wp2
        go_roundw
        case rel => exact ⟨k + 1, by omega, by go_num, by rw [HAT.out]; simp, after HB4.out pq.ok⟩
        case measure => simp [intOf]; omega
      · obtain rfl : k = l.length := by omega
        rw [List.take_length, HE.out]
        have HBW := Lib.hid hb
        have hb6 := after HB2.out hb
        have HB6 := Lib.hid hb6
        have KS := Lib.hid (scan_any A E c (d.take E) wr ((HH.out.to hb6).cutTo hp2) (by omega) (by omega) hc63)
        have hag : scan (d.take E) = l := by
          have := scan_again d
          rwa [HL.out, HE.out] at this
        rw [hag, HE.out] at KS
        clear hb hb6 hag hlt
        go_wp2_with fail
        refine KS.out.mono ?_
        rintro e w3 ⟨A5, c5, vs5, rfl, ho5, ht5, hb5⟩
        have HB7 := Lib.hid (after HB6.out hb5)
        have KT := Lib.hid (sameTexts_any A2 A5 l.length c2 l.length c5 l l w3 ((HT.out.to HBW.out).to hb5) (Tx.of_own ho5 ht5) (by omega) (by omega))
        rw [show decide (l = l) = true from decide_eq_true rfl] at KT
        clear ho5 ht5 hb5 KS
        go_wp2_with fail
        refine KT.out.mono ?_
        rintro e w4 ⟨rfl, hb8⟩
        have HB8 := Lib.hid (after HB7.out hb8)
        clear hb8 KT
        by_cases h10 : n - E < 10
        · have i7 : (n : Int) - E < 10 := by omega
          go_wp2_with fail
          go_ret
          exact ⟨rfl, HB8.out⟩
        · have i7 : ¬ (n : Int) - E < 10 := by omega
          have j1 : IntKind.i64.wrap ((E : Int) + 4) = (E : Int) + 4 := IntWalk.i64_in _ (by omega)
          have j2 : IntKind.i64.wrap ((E : Int) + 5) = (E : Int) + 5 := IntWalk.i64_in _ (by omega)
          have j3 : ((E : Int) + 4).toNat = E + 4 := by omega
          have j4 : ((E : Int) + 5).toNat = E + 5 := by omega
          have j5 : (0 : Int) ≤ (E : Int) + 4 := by omega
          have j6 : (0 : Int) ≤ (E : Int) + 5 := by omega
          have j7 : (E : Int) + 4 < (n : Int) := by omega
          have j8 : (E : Int) + 5 < (n : Int) := by omega
          obtain ⟨x4, b0, o0, hx4, hA4, hb04, cx4⟩ := HH.out.at_ (i := E + 4) (by omega)
          obtain ⟨x5, b9, o9, hx5, hA5, hb05, cx5⟩ := HH.out.at_ (i := E + 5) (by omega)
          have hAA := hA4
          rw [hA5] at hAA
          injection hAA with hAA
          injection hAA with hAA1 hAA2
          subst hAA1 hAA2
          have hsz : sizeAt (d.drop E) = x4.toNat + 256 * x5.toNat := by
            unfold sizeAt
            rw [List.getD_eq_getElem?_getD, List.getD_eq_getElem?_getD, List.getElem?_drop, List.getElem?_drop, hx4, hx5]
            rfl
          have HSZ := Lib.hid hsz
          have HA := Lib.hid hA4
          have X4 : ∀ p : Later w4, p.val.cell? ⟨b9, o9 + (E + 4), none⟩ = some (.int .u8 (x4.toNat : Int)) := fun p => ((after HB8.out p.ok).cell (p := ⟨b9, o9 + (E + 4), none⟩) hb04).trans cx4
          have X5 : ∀ p : Later w4, p.val.cell? ⟨b9, o9 + (E + 5), none⟩ = some (.int .u8 (x5.toNat : Int)) := fun p => ((after HB8.out p.ok).cell (p := ⟨b9, o9 + (E + 5), none⟩) hb05).trans cx5
          have y4 := x4.toNat_lt
          have y5 := x5.toNat_lt
          subst hA4
          clear hsz hx4 hx5 hA5 cx4 cx5
          go_wp2_with fail
          (refine wp_region_later (by kernel_rfl) (by kernel_rfl) ?_; (repeat (first | go_big_quiet_step ((fail)) | quiet_step ((fail)))); refine wpQuiet_nil ?_; intro _ hw1; obtain ⟨pq, hw2⟩ := hw1; subst hw2)
          clear X4 X5 j1 j2 j3 j4 j5 j6 j7 j8
          have hB9 := after HB8.out pq.ok
          have HB9 := Lib.hid hB9
          generalize pq.val = w5 at *
          obtain ⟨q, hq⟩ : ∃ q, x4.toNat + 256 * x5.toNat = q := ⟨_, rfl⟩
          have hqi : (x4.toNat : Int) + 256 * (x5.toNat : Int) = (q : Int) := by omega
          rw [hqi]
          rw [hq] at HSZ
          have y6 : q < 65536 := by omega
          clear hqi hq y4 y5 hB9
          by_cases h4 : 4096 < q
          · have i8 : (4096 : Int) < q := by omega
            go_wp2_with fail
            go_ret
            exact ⟨rfl, HB9.out⟩
          · have i8 : (q : Int) ≤ 4096 := by omega
            by_cases h11 : n - E < q + 10
            · have i9 : (n : Int) - E < (q : Int) + 10 := by omega
              go_wp2_with fail
              go_ret
              exact ⟨rfl, HB9.out⟩
            · have i9 : ¬ (n : Int) - E < (q : Int) + 10 := by omega
              have hpw : Bys w w.heap.size (some ⟨b9, o9 + (E + 6), none⟩) q ((d.drop (E + 6)).take q) := HH.out.part (i := E + 6) (k := q) (by omega)
              have hrw : Bys w w.heap.size (some ⟨b9, o9 + E, none⟩) (q + 10) ((d.drop E).take (q + 10)) := HH.out.part (i := E) (k := q + 10) (by omega)
              obtain ⟨F, hF⟩ : ∃ F, formed (l.length + 1) ((d.drop (E + 6)).take q) = F := ⟨_, rfl⟩
              obtain ⟨m, hm⟩ : ∃ m, q + 10 = m := ⟨_, rfl⟩
              have hne : F ≠ (d.drop E).take m := by
                intro e
                have hn := HP.out.2.1
                unfold nextR at hn
                have hdl : (d.drop E).length = n - E := by rw [List.length_drop, HH.out.len]
                rw [HSZ.out, hdl, if_neg (by have := HE.out; have := sizes_len l; omega), if_neg (by omega), List.drop_drop, hF, hm, if_pos e] at hn
                cases hn
              have hbn : (F == (d.drop E).take m) = false := by rw [beq_eq_false_iff_ne]; exact hne
              have hbn2 : (F != (d.drop E).take m) = true := by simp [bne, hbn]
              have hll : l.length + 1 ≤ 65536 := by have := HE.out; have := sizes_len l; omega
              have KF := Lib.hid (form_good (some ⟨b9, o9 + (E + 6), none⟩) q (c - (E + 6)) (l.length + 1) m ((l.length : Int) + 1) _ F w5 (hpw.to HB9.out) (by omega) hll (by omega) (by omega) hm hF)
              have HRW := Lib.hid hrw
              rw [hm] at HRW
              obtain ⟨R, hR⟩ : ∃ R, (d.drop E).take m = R := ⟨_, rfl⟩
              rw [hR] at HRW hbn hbn2
              have b3 : E + m ≤ n := by omega
              have b4 : 10 ≤ m := by omega
              have e1 : E + 6 + q - (E + 6) = q := by omega
              have e2 : ¬ c = E + 6 := by omega
              have hqm := Lib.hid hm
              clear hpw hrw hne hR hF hm h11
              go_wp2_with fail
              refine KF.out.mono ?_
              rintro e w6 ⟨A6, c6, rfl, ho6, hb6⟩
              have hB10 := after HB9.out hb6
              have HB10 := Lib.hid hB10
              have by6 := Bys.of_own ho6
              have V1 : ∀ p : Later w6, (convert 25 9 (.slice A6 m c6)).run Try.prog p.val = .ok (.string ⟨F.toArray⟩) p.val := fun p => (by6.to p.ok).conv _ 5 _ _ Try.underlying25 Try.underlying5 Try.underlying9
              have V2 : ∀ p : Later w6, (convert 25 9 (.slice (some ⟨b9, o9 + E, none⟩) m (c - E))).run Try.prog p.val = .ok (.string ⟨R.toArray⟩) p.val := fun p => ((HRW.out.to hB10).to p.ok).conv _ 5 _ _ Try.underlying25 Try.underlying5 Try.underlying9
              have j1 : IntKind.i64.wrap ((E : Int) + (q : Int)) = (E : Int) + q := IntWalk.i64_in _ (by omega)
              have j2 : IntKind.i64.wrap ((E : Int) + (q : Int) + 10) = ((E + m : Nat) : Int) := by rw [IntWalk.i64_in _ (by omega)]; have := hqm.out; omega
              have j3 : ((E + m : Nat) : Int).toNat = E + m := by omega
              have j5 : (0 : Int) ≤ ((E + m : Nat) : Int) := by omega
              have j6 : (E : Int) ≤ ((E + m : Nat) : Int) := by omega
              have j7 : ((E + m : Nat) : Int) ≤ (n : Int) := by omega
              have j8 : ((E + m : Nat) : Int) ≤ (c : Int) := by omega
              have j10 : E + m - E = m := by omega
              have j11 : ¬ c = E := by omega
              clear ho6 hb6 by6 hB10 KF e1 e2 i9 i8 b3 b4
              go_wp2_with fail
              (refine wp_region_later (by kernel_rfl) (by kernel_rfl) ?_; (repeat (first | go_big_quiet_step ((fail)) | quiet_step ((fail)))); refine wpQuiet_nil ?_; intro _ hw1; obtain ⟨pr, hw2⟩ := hw1; subst hw2)
              clear V1 V2 j1 j2 j3 j5 j6 j7 j8 j10 j11
              go_wp2
              go_ret
              exact ⟨rfl, after HB10.out pr.ok⟩
end Go.Proofs.Ytbkicepkkcambaa
