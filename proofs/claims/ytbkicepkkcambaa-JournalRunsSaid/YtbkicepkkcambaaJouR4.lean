/- The reference: Scan. -/
import Derived.Test.YtbkicepkkcambaaJouR3
namespace Go.Proofs.Ytbkicepkkcambaa
open Go.RowKit BigFrame Go.Shelf
set_option linter.unusedVariables false
set_option linter.unusedSimpArgs false

theorem same_below {P : Program} {f : FuncId} {args : Array Value} {w : World} {v : Value} (h : Calls P f args w fun e w' => e = .returned v ∧ w = w') : Calls P f args w fun e w' => e = .returned v ∧ Below w.heap.size w w' :=
  h.mono fun e w' ⟨h1, h2⟩ => ⟨h1, h2 ▸ Below.refl _ _⟩

set_option maxRecDepth 100000 in
set_option maxHeartbeats 4000000 in
theorem refscan_any (A : Option Addr) (n c : Nat) (d : Bytes) (w : World) (h : Bys w w.heap.size A n d) (hn : n ≤ 100000000000) (hc : n ≤ c) (hc63 : c ≤ 9223372036854775807) :
    Calls Try.prog 32 #[.slice A n c] w fun e w' => ∃ A' c' vs, e = .returned (.tuple #[.slice A' (scan d).length c', .int .i64 ((sizes (scan d) : Nat) : Int)]) ∧ w'.ownsRow w.heap.size 25 1 (.slice A' (scan d).length c') (scan d).length vs ∧ OwnTexts w' w.heap.size vs (scan d) ∧ Below w.heap.size w w' := by
  have hsh := scan_short d
  have HSH := Lib.hid hsh
  have HH := Lib.hid h
  have HL := Lib.hid h.len
  clear h hsh
  go_enter Try.func32, Try.ntmps32
  go_wp2_with fail
  go_loopw [4, 5] (fun v i wr => ∃ (j : Nat) (A' : Option Addr) (c' : Nat) (vs : List Value), j ≤ (scan d).length ∧ v = .slice A' j c' ∧ i = .int .i64 ((sizes ((scan d).take j) : Nat) : Int) ∧ wr.ownsRow w.heap.size 25 1 (.slice A' j c') j vs ∧ OwnTexts wr w.heap.size vs ((scan d).take j) ∧ Below w.heap.size w wr) (fun _ i _ => n - (intOf i).toNat)
  case atStart => exact ⟨0, none, 0, [], Nat.zero_le _, rfl, by simp [sizes], World.ownsRow_nil _ _ _ _, by simp [OwnTexts], Below.refl _ _⟩
  case round =>
    obtain ⟨j, A', c', vs, hj, rfl, rfl, ho, ht, hb⟩ := hrel
    have hroom := scan_room d j
    rw [HL.out] at hroom
    have hnx := next_at (d := d) hj
    have hj6 := Nat.le_trans hj HSH.out
    obtain ⟨a, ha⟩ : ∃ a, sizes ((scan d).take j) = a := ⟨_, rfl⟩
    rw [ha] at hroom hnx ⊢
    have HA := Lib.hid ha.symm
    have FIN : Hid (nextR (d.drop a) (j + 1) = none → j = (scan d).length) := Lib.hid fun e => by
      rw [e] at hnx
      have := List.getElem?_eq_none_iff.1 hnx.symm
      omega
    have HNX := Lib.hid hnx
    have HO := Lib.hid ho
    have HT := Lib.hid ht
    have HB := Lib.hid hb
    have HDL := Lib.hid (show (d.drop a).length = n - a by rw [List.length_drop, HL.out])
    clear hnx ho ht hb ha
    by_cases h1 : 65536 ≤ j
    · have i1 : ¬ (j : Int) < 65536 := by omega
      go_wp2_with fail
      go_ret2
      have e9 := FIN.out (nextR_many (by omega))
      subst e9
      have ho9 := HO.out
      have ht9 := HT.out
      rw [List.take_length] at ht9
      first | refine ⟨A', c', ?_, vs, ho9, ht9, HB.out⟩ | refine ⟨A', c', vs, ?_, ho9, ht9, HB.out⟩
      rw [HA.out, List.take_length]
      rfl
    · have i1 : (j : Int) < 65536 := by omega
      by_cases h2 : n - a < 10
      · have i2 : ¬ (10 : Int) ≤ (n : Int) - a := by omega
        go_wp2_with fail
        go_ret2
        have e9 := FIN.out (nextR_short (by rw [HDL.out]; exact h2))
        subst e9
        have ho9 := HO.out
        have ht9 := HT.out
        rw [List.take_length] at ht9
        first | refine ⟨A', c', ?_, vs, ho9, ht9, HB.out⟩ | refine ⟨A', c', vs, ?_, ho9, ht9, HB.out⟩
        rw [HA.out, List.take_length]
        rfl
      · have i2 : (10 : Int) ≤ (n : Int) - a := by omega
        obtain ⟨x0, bb, o, _, rfl, hbB, _⟩ := HH.out.at_ (i := 0) (by omega)
        have hd2 := HH.out.part (i := a + 4) (k := 2) (by omega)
        have hsz : num ((d.drop (a + 4)).take 2) = sizeAt (d.drop a) := by rw [← sizeAt_num (r := d.drop a) (by rw [HDL.out]; omega), List.drop_drop]
        obtain ⟨q, hq⟩ : ∃ q, sizeAt (d.drop a) = q := ⟨_, rfl⟩
        rw [hq] at hsz
        have HQ := Lib.hid hq
        have hql : q < 65536 := by
          have := num_lt ((d.drop (a + 4)).take 2)
          rw [hsz, hd2.len] at this
          exact this
        have KN := Lib.hid (fun W c (hW : Below w.heap.size w W) => number_any (some ⟨bb, o + (a + 4), none⟩) 2 c _ W ((hd2.later (Nat.le_refl _) hW).more hW.size) (by omega))
        rw [hsz] at KN
        have j1 : IntKind.i64.wrap ((a : Int) + 4) = (a : Int) + 4 := IntWalk.i64_in _ (by omega)
        have j2 : IntKind.i64.wrap ((a : Int) + 6) = (a : Int) + 6 := IntWalk.i64_in _ (by omega)
        have j3 : ((a : Int) + 4).toNat = a + 4 := by omega
        have j4 : ((a : Int) + 6).toNat = a + 6 := by omega
        have j5 : (0 : Int) ≤ (a : Int) + 4 := by omega
        have j6 : (a : Int) + 4 ≤ (a : Int) + 6 := by omega
        have j7 : (a : Int) + 6 ≤ (n : Int) := by omega
        have j8 : (a : Int) + 6 ≤ (c : Int) := by omega
        clear hd2 hsz hq
        go_wp2_with fail
        refine (KN.out _ _ HB.out).mono ?_
        rintro e w1 ⟨rfl, rfl⟩
        clear j1 j3 j5 j6 j7 j8 KN
        by_cases h3 : 4096 < q
        · have i3 : (4096 : Int) < q := by omega
          go_wp2_with fail
          go_ret2
          have e9 := FIN.out (nextR_size HQ.out (.inl h3))
          subst e9
          have ho9 := HO.out
          have ht9 := HT.out
          rw [List.take_length] at ht9
          first | refine ⟨A', c', ?_, vs, ho9, ht9, HB.out⟩ | refine ⟨A', c', vs, ?_, ho9, ht9, HB.out⟩
          rw [HA.out, List.take_length]
          rfl
        · have i3 : ¬ (4096 : Int) < q := by omega
          by_cases h4 : n - a < q + 10
          · have i4 : (n : Int) - a < (q : Int) + 10 := by omega
            go_wp2_with fail
            go_ret2
            have e9 := FIN.out (nextR_size HQ.out (.inr (by rw [HDL.out]; exact h4)))
            subst e9
            have ho9 := HO.out
            have ht9 := HT.out
            rw [List.take_length] at ht9
            first | refine ⟨A', c', ?_, vs, ho9, ht9, HB.out⟩ | refine ⟨A', c', vs, ?_, ho9, ht9, HB.out⟩
            rw [HA.out, List.take_length]
            rfl
          · have i4 : ¬ (n : Int) - a < (q : Int) + 10 := by omega
            have HRF := Lib.hid (nextR_ref (r := d.drop a) (k := j + 1) (by omega) HQ.out (by omega) (by rw [HDL.out]; omega))
            have hd4 := HH.out.part (i := a) (k := 4) (by omega)
            have hdE := HH.out.part (i := a + (q + 6)) (k := 4) (by omega)
            have hdH := HH.out.part (i := a) (k := q + 6) (by omega)
            have HP := Lib.hid (HH.out.part (i := a + 6) (k := q) (by omega))
            rw [List.drop_drop, List.drop_drop] at HRF
            have b1 := num_lt ((d.drop a).take 4)
            have b2 := num_lt ((d.drop (a + (q + 6))).take 4)
            have b3 := check_lt ((d.drop a).take (q + 6))
            rw [hd4.len] at b1
            rw [hdE.len] at b2
            have K1 := fun c (p : Later wr) => Lib.hid (same_below (number_any (some ⟨bb, o + a, none⟩) 4 c _ p.val ((hd4.later (Nat.le_refl _) (after HB.out p.ok)).more (after HB.out p.ok).size) (by omega)))
            have K2 := fun c (p : Later wr) => Lib.hid (same_below (number_any (some ⟨bb, o + (a + (q + 6)), none⟩) 4 c _ p.val ((hdE.later (Nat.le_refl _) (after HB.out p.ok)).more (after HB.out p.ok).size) (by omega)))
            have K3 := fun c (p : Later wr) => Lib.hid (same_below (check_any (some ⟨bb, o + a, none⟩) (q + 6) c _ p.val ((hdH.later (Nat.le_refl _) (after HB.out p.ok)).more (after HB.out p.ok).size) (by omega)))
            generalize num ((d.drop a).take 4) = k1 at *
            generalize num ((d.drop (a + (q + 6))).take 4) = k2 at *
            generalize check ((d.drop a).take (q + 6)) = k3 at *
            obtain ⟨E, hE⟩ : ∃ E, a + (q + 6) = E := ⟨_, rfl⟩
            have e1 : IntKind.i64.wrap ((a : Int) + 6 + (q : Int)) = (E : Int) := (IntWalk.i64_in _ (by omega)).trans (by omega)
            have HE := Lib.hid hE
            have HI4 := Lib.hid h4
            rw [hE] at K2
            clear hd4 hdE hdH i4 hE
            have i4 : decide ((n : Int) - (a : Int) < (q : Int) + 10) = false := by rw [decide_eq_false_iff_not]; omega
            clear h4 h3 h2
            have b1' : k1 < 4294967296 := b1
            have b2' : k2 < 4294967296 := b2
            clear b1 b2
            clear i1 i2
            go_upto_region 8 with (fail)
            have f1 : IntKind.i64.wrap ((a : Int) + 4) = (a : Int) + 4 := IntWalk.i64_in _ (by omega)
            have f2 : IntKind.i64.wrap ((E : Int) + 4) = (E : Int) + 4 := IntWalk.i64_in _ (by have := HE.out; omega)
            have f3 : ((a : Int) + 4).toNat = a + 4 := by omega
            have f4 : ((E : Int) + 4).toNat = E + 4 := by omega
            have f5 : (0 : Int) ≤ (a : Int) + 4 := by omega
            have f6 : (a : Int) ≤ (a : Int) + 4 := by omega
            have f7 : (a : Int) + 4 ≤ (n : Int) := by have := HI4.out; omega
            have f8 : (a : Int) + 4 ≤ (c : Int) := by have := HI4.out; omega
            have g5 : (0 : Int) ≤ (E : Int) + 4 := by omega
            have g6 : (E : Int) ≤ (E : Int) + 4 := by omega
            have g7 : (E : Int) + 4 ≤ (n : Int) := by have := HI4.out; have := HE.out; omega
            have g8 : (E : Int) + 4 ≤ (c : Int) := by have := HI4.out; have := HE.out; omega
            have p5 : (0 : Int) ≤ (E : Int) := by omega
            have p6 : (a : Int) ≤ (E : Int) := by have := HE.out; omega
            have p7 : (E : Int) ≤ (n : Int) := by omega
            have p8 : (E : Int) ≤ (c : Int) := by omega
            have p9 : E - a = q + 6 := by have := HE.out; omega
            clear i3 i4 j2 j4 e1
            by_cases h5 : k1 = j + 1
            · have i5 : ((k1 : Int) == (j : Int) + 1) = true := by simp [h5]
              have i5' : ((k1 : Int) != (j : Int) + 1) = false := by simp [h5]
              have H5 := Lib.hid h5
              by_cases h6 : k2 = k3
              · have i6 : ((k2 : Int) == (k3 : Int)) = true := by simp [h6]
                have i6' : ((k2 : Int) != (k3 : Int)) = false := by simp [h6]
                have HSM := Lib.hid (HRF.out.trans (if_pos ⟨H5.out, h6⟩))
                clear h5 h6
                go_wp2_with fail
                (refine wp_region_later (by kernel_rfl) (by kernel_rfl) ?_; (repeat (first | go_big_quiet_step ((first | (go_at_call 39; first | (with_reducible exact Calls.later _ (K1 _ _).out) | (with_reducible exact Calls.later _ (K2 _ _).out)) | (go_at_call 40; (with_reducible exact Calls.later _ (K3 _ _).out)))) | quiet_step ((first | (go_at_call 39; first | (with_reducible exact Calls.later _ (K1 _ _).out) | (with_reducible exact Calls.later _ (K2 _ _).out)) | (go_at_call 40; (with_reducible exact Calls.later _ (K3 _ _).out)))))); refine wpQuiet_nil ?_; intro _ hw1; obtain ⟨pq, hw2⟩ := hw1; subst hw2)
                have hpq := pq.ok
                replace HO := Lib.hid (own_kept HO.out hpq (Nat.le_refl _))
                replace HT := Lib.hid (HT.out.map fun v n xs h => own_kept h hpq (Nat.le_refl _))
                generalize pq.val = w4 at *
                try clear K1
                try clear K2 K3
                have hWw := after HB.out hpq
                have HBW := Lib.hid hWw
                have p10 : E - (a + 6) = q := by have := HE.out; omega
                have s1 : IntKind.i64.wrap ((a : Int) + 6) = (a : Int) + 6 := IntWalk.i64_in _ (by omega)
                have s3 : ((a : Int) + 6).toNat = a + 6 := by omega
                have s5 : (0 : Int) ≤ (a : Int) + 6 := by omega
                have s7 : ¬ c = a + 6 := by have := HI4.out; omega
                have s6 : (a : Int) + 6 ≤ (E : Int) := by have := HE.out; omega
                clear f1 f3 f5 f6 f7 f8 g5 g6 g7 g8 p9 hpq i5 i5' i6 i6'
                obtain ⟨x, hx⟩ : ∃ x, (d.drop (a + 6)).take q = x := ⟨_, rfl⟩
                rw [hx] at HP HSM
                have HXL := Lib.hid HP.out.len
                clear hx
                go_wp2_with (first
                  | (at_builtin; (refine elemByte.list_append rfl (.tmp 69) (.tmp 74) rfl rfl (World.ownsRow_lit (base := w4.heap.size) (e := 5) (size := 1) w4 #[] 0 (Nat.le_refl _) (by unfold maxLen; omega) rfl) rfl (((HP.out.later (Nat.le_refl _) HBW.out).more HBW.out.size).reads.alloc (Nat.le_refl _) _) (bys_one x) (by unfold maxLen; omega) (by omega) (by simp) ?_; intro v5 w5 hown hg hat; simp only [Nat.zero_add, List.nil_append] at hown; obtain ⟨A5, c5, hv5, _⟩ := own_shape hown; subst hv5; have hb5 : Below w4.heap.size w4 w5 := lit_below hg (Below.refl _ _) (Nat.le_refl _); have HO5 := Lib.hid (own_kept HO.out hb5 (Nat.le_refl _)); have HT5 := Lib.hid (HT.out.map fun v n xs h => own_kept h hb5 (Nat.le_refl _)); have HB5 := Lib.hid (after HBW.out hb5); have HX5 := Lib.hid (own_more hown HBW.out.size); have hs5 := HB5.out.size; clear hown hg hat hb5))
                  | (at_builtin; (refine elemText.list_append rfl (.tmp 68) (.tmp 76) rfl rfl (HO5.out.alloc _) rfl (reads_block (b := w5.heap.size) (n := 1) (B := w5.heap.size + 1) (xs := [.slice A5 q c5]) (by omega) (heap_at rfl) rfl rfl) (by simp [Value.oneCell']) (by unfold maxLen; omega) (by omega) (by simp; omega) ?_; intro v6 w6 hown hg hat; obtain ⟨A6, c6, hv6, _⟩ := own_shape hown; subst hv6; change (World.alloc w5 _).grownBy w6 (Value.slice A' j c').ownBlock at hg; have HO6 := Lib.hid hown; have HG6 := Lib.hid hg; clear hown hg hat)))
                have hjl : j < (scan d).length ∧ (scan d)[j]? = some x := by
                  have := HNX.out.symm.trans HSM.out
                  exact ⟨(List.getElem?_eq_some_iff.1 this).1, this⟩
                have hss := sizes_snoc _ _ _ hjl.2
                have htk : (scan d).take (j + 1) = (scan d).take j ++ [x] := by rw [List.take_add_one, hjl.2]; rfl
                have hm : ∀ (v : Value) (n : Nat) (xs : List Value), w5.ownsRow w.heap.size 5 1 v n xs → w6.ownsRow w.heap.size 5 1 v n xs := fun v n xs h => own_grown (h.alloc _) HG6.out fun k hk => own_ne h HO5.out (by decide) hk
                have ht6 : OwnTexts w6 w.heap.size (vs ++ [.slice A5 q c5]) ((scan d).take (j + 1)) := by
                  rw [htk]
                  have hx5 := HXL.out
                  subst hx5
                  exact OwnTexts.snoc (hm _ _ _ HX5.out) (HT5.out.map hm)
                have hb6 : Below w.heap.size w w6 := Below.grown (HB5.out.alloc hs5 _) HG6.out (by simp; omega) (fun k hk => (HO5.out.lt k hk).1)
                have hE4 : E + 4 = sizes ((scan d).take (j + 1)) := by rw [hss, ← HA.out, HXL.out]; have := HE.out; omega
                go_roundw
                case rel => exact ⟨j + 1, A6, c6, _, hjl.1, rfl, by rw [← hE4]; go_num, HO6.out, ht6, hb6⟩
                case measure => simp [intOf]; have := HE.out; omega
              · have i6 : ((k2 : Int) == (k3 : Int)) = false := by rw [beq_eq_false_iff_ne]; omega
                have i6' : ((k2 : Int) != (k3 : Int)) = true := by simp [bne, i6]
                have HNO := Lib.hid (HRF.out.trans (if_neg fun e => h6 e.2))
                clear h5 h6
                go_wp2_with fail
                (refine wp_region_later (by kernel_rfl) (by kernel_rfl) ?_; (repeat (first | go_big_quiet_step ((first | (go_at_call 39; first | (with_reducible exact Calls.later _ (K1 _ _).out) | (with_reducible exact Calls.later _ (K2 _ _).out)) | (go_at_call 40; (with_reducible exact Calls.later _ (K3 _ _).out)))) | quiet_step ((first | (go_at_call 39; first | (with_reducible exact Calls.later _ (K1 _ _).out) | (with_reducible exact Calls.later _ (K2 _ _).out)) | (go_at_call 40; (with_reducible exact Calls.later _ (K3 _ _).out)))))); refine wpQuiet_nil ?_; intro _ hw1; obtain ⟨pq, hw2⟩ := hw1; subst hw2)
                have hpq := pq.ok
                replace HO := Lib.hid (own_kept HO.out hpq (Nat.le_refl _))
                replace HT := Lib.hid (HT.out.map fun v n xs h => own_kept h hpq (Nat.le_refl _))
                generalize pq.val = w4 at *
                try clear K1
                try clear K2 K3
                go_wp2_with fail
                go_ret2
                have e9 := FIN.out (HNO.out)
                subst e9
                have ho9 := HO.out
                have ht9 := HT.out
                rw [List.take_length] at ht9
                first | refine ⟨A', c', ?_, vs, ho9, ht9, after HB.out hpq⟩ | refine ⟨A', c', vs, ?_, ho9, ht9, after HB.out hpq⟩
                rw [HA.out, List.take_length]
                rfl
            · have i5 : ((k1 : Int) == (j : Int) + 1) = false := by rw [beq_eq_false_iff_ne]; omega
              have i5' : ((k1 : Int) != (j : Int) + 1) = true := by simp [bne, i5]
              have HNO := Lib.hid (HRF.out.trans (if_neg fun e => h5 e.1))
              clear h5 p9 p8 p7 p6 p5 g8 g7 g6 g5 f2 f4 K2 K3
              go_wp2_with fail
              (refine wp_region_later (by kernel_rfl) (by kernel_rfl) ?_; (repeat (first | go_big_quiet_step ((first | (go_at_call 39; first | (with_reducible exact Calls.later _ (K1 _ _).out) | (with_reducible exact Calls.later _ (K2 _ _).out)) | (go_at_call 40; (with_reducible exact Calls.later _ (K3 _ _).out)))) | quiet_step ((first | (go_at_call 39; first | (with_reducible exact Calls.later _ (K1 _ _).out) | (with_reducible exact Calls.later _ (K2 _ _).out)) | (go_at_call 40; (with_reducible exact Calls.later _ (K3 _ _).out)))))); refine wpQuiet_nil ?_; intro _ hw1; obtain ⟨pq, hw2⟩ := hw1; subst hw2)
              have hpq := pq.ok
              replace HO := Lib.hid (own_kept HO.out hpq (Nat.le_refl _))
              replace HT := Lib.hid (HT.out.map fun v n xs h => own_kept h hpq (Nat.le_refl _))
              generalize pq.val = w4 at *
              try clear K1
              try clear K2 K3
              go_wp2_with fail
              go_ret2
              have e9 := FIN.out (HNO.out)
              subst e9
              have ho9 := HO.out
              have ht9 := HT.out
              rw [List.take_length] at ht9
              first | refine ⟨A', c', ?_, vs, ho9, ht9, after HB.out hpq⟩ | refine ⟨A', c', vs, ?_, ho9, ht9, after HB.out hpq⟩
              rw [HA.out, List.take_length]
              rfl
end Go.Proofs.Ytbkicepkkcambaa
