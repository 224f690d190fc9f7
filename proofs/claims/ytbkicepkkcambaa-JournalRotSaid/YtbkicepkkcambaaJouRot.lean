/- JournalRot: the walk. -/
import Derived.Test.YtbkicepkkcambaaJouPrefix
namespace Go.Proofs.Ytbkicepkkcambaa
open Go.RowKit BigFrame Go.Shelf
set_option linter.unusedVariables false
set_option linter.unusedSimpArgs false

theorem xor8 (x y : UInt8) : bits .xor .u8 (x.toNat : Int) (y.toNat : Int) = ((x ^^^ y).toNat : Int) := by
  have hx := x.toNat_lt
  have hy := y.toNat_lt
  have e1 : (BitVec.ofInt IntKind.u8.bits (x.toNat : Int)).toNat = x.toNat := by
    rw [BitVec.toNat_ofInt]
    show (((x.toNat : Int) % ((2 ^ 8 : Nat) : Int))).toNat = x.toNat
    omega
  have e2 : (BitVec.ofInt IntKind.u8.bits (y.toNat : Int)).toNat = y.toNat := by
    rw [BitVec.toNat_ofInt]
    show (((y.toNat : Int) % ((2 ^ 8 : Nat) : Int))).toNat = y.toNat
    omega
  unfold bits
  dsimp only
  rw [BitVec.toNat_xor, e1, e2, UInt8.toNat_xor]
  have h : x.toNat ^^^ y.toNat < 256 := Nat.xor_lt_two_pow (n := 8) hx hy
  rw [IntWalk.u8_in _ (by omega)]

set_option maxRecDepth 100000 in
set_option maxHeartbeats 4000000 in
theorem rot_walk (A : Option Addr) (n c : Nat) (l : List Bytes) (at_ a2 : Int) (z : UInt8) (w : World) (h : Tx w w.heap.size A n l) (hnc : n ≤ c) (hc63 : c ≤ 9223372036854775807) (hat : -9223372036854775808 ≤ at_ ∧ at_ ≤ 9223372036854775807) (ha : -9223372036854775808 ≤ a2 ∧ a2 ≤ 9223372036854775807) :
    Calls Try.prog 6 #[.slice A n c, .int .i64 at_, .int .i64 a2, .int .u8 (z.toNat : Int)] w fun e w' => e = .returned (.bool true) ∧ Below w.heap.size w w' := by
  have HT := Lib.hid h
  have HLEN := Lib.hid h.len
  have hz8 := z.toNat_lt
  clear h
  cases hs : shortB l 10 with
  | false =>
    have HS := Lib.hid hs
    clear hs
    go_enter Try.func6, Try.ntmps6
    go_wp2_with fail
    refine (awake_any w).mono ?_
    rintro e w1 ⟨rfl, hb1⟩
    have HB1 := Lib.hid hb1
    go_wp2_with fail
    refine (short_any A n c 10 l w1 (HT.out.to hb1) (by omega) (by omega) (by omega)).mono ?_
    rintro e w2 ⟨rfl, rfl⟩
    rw [HS.out]
    clear hb1
    go_wp2_with fail
    go_ret
    exact ⟨rfl, HB1.out⟩
  | true =>
    have HS := Lib.hid hs
    obtain ⟨h20, h300⟩ : l.length ≤ 10 ∧ ∀ x ∈ l, x.length ≤ 300 := by
      unfold shortB at hs
      rw [decide_eq_true_iff] at hs
      exact ⟨by omega, hs.2⟩
    have H3 := Lib.hid h300
    have hnl : n = l.length := HLEN.out.symm
    have h20' : n ≤ 10 := by omega
    have HNL := Lib.hid hnl
    have hsz : sizes l ≤ 3100 := Nat.le_trans (sizes_small h300) (by omega)
    have HSZ := Lib.hid hsz
    clear hs h300 hnl hsz
    by_cases i1 : at_ < 0
    · go_enter Try.func6, Try.ntmps6
      go_wp2_with fail
      refine (awake_any w).mono ?_
      rintro e w1 ⟨rfl, hb1⟩
      have HB1 := Lib.hid hb1
      go_wp2_with fail
      refine (short_any A n c 10 l w1 (HT.out.to hb1) (by omega) (by omega) (by omega)).mono ?_
      rintro e w2 ⟨rfl, rfl⟩
      rw [HS.out]
      clear hb1
      go_wp2_with fail
      go_ret
      exact ⟨rfl, HB1.out⟩
    · by_cases i2 : (n : Int) ≤ at_
      · have i1' : 0 ≤ at_ := by omega
        clear i1
        go_enter Try.func6, Try.ntmps6
        go_wp2_with fail
        refine (awake_any w).mono ?_
        rintro e w1 ⟨rfl, hb1⟩
        have HB1 := Lib.hid hb1
        go_wp2_with fail
        refine (short_any A n c 10 l w1 (HT.out.to hb1) (by omega) (by omega) (by omega)).mono ?_
        rintro e w2 ⟨rfl, rfl⟩
        rw [HS.out]
        clear hb1
        go_wp2_with fail
        go_ret
        exact ⟨rfl, HB1.out⟩
      · obtain ⟨p, rfl⟩ : ∃ p : Nat, at_ = p := ⟨at_.toNat, by omega⟩
        have i3 : (p : Int) < (n : Int) := by omega
        have i4 : p < n := by omega
        clear i1 i2
        by_cases hz : (z.toNat : Int) = 0
        · have i5 : ((z.toNat : Int) == 0) = true := by rw [beq_iff_eq]; exact hz
          clear hz
          go_enter Try.func6, Try.ntmps6
          go_wp2_with fail
          refine (awake_any w).mono ?_
          rintro e w1 ⟨rfl, hb1⟩
          have HB1 := Lib.hid hb1
          go_wp2_with fail
          refine (short_any A n c 10 l w1 (HT.out.to hb1) (by omega) (by omega) (by omega)).mono ?_
          rintro e w2 ⟨rfl, rfl⟩
          rw [HS.out]
          clear hb1
          go_wp2_with fail
          go_ret
          exact ⟨rfl, HB1.out⟩
        · have i5 : ((z.toNat : Int) == 0) = false := by rw [beq_eq_false_iff_ne]; exact hz
          have HZ := Lib.hid hz
          have d1 : decide ((p : Int) < 0) = false := by rw [decide_eq_false_iff_not]; omega
          have d2 : decide (n ≤ p) = false := by rw [decide_eq_false_iff_not]; omega
          clear hz
          go_enter Try.func6, Try.ntmps6
          go_wp2_with fail
          refine (awake_any w).mono ?_
          rintro e w1 ⟨rfl, hb1⟩
          have HB1 := Lib.hid hb1
          go_wp2_with fail
          refine (short_any A n c 10 l w1 (HT.out.to hb1) (by omega) (by omega) (by omega)).mono ?_
          rintro e w2 ⟨rfl, rfl⟩
          rw [HS.out]
          clear hb1
          go_wp2_with fail
          go_loopw [9, 10, 11] (fun vd vf i wr => ∃ k : Nat, k ≤ n ∧ i = .int .i64 k ∧ Below w1.heap.size w1 wr ∧ (∃ f : Nat, vf = .int .i64 f ∧ (p < k → f = sizes (l.take p))) ∧ ∃ A5 c5, vd = .slice A5 (sizes (l.take k)) c5 ∧ wr.ownsRow w1.heap.size 5 1 (.slice A5 (sizes (l.take k)) c5) (sizes (l.take k)) (bys (bytesOf 1 (l.take k)))) (fun _ _ i _ => n - (intOf i).toNat)
          case atStart => exact ⟨0, Nat.zero_le _, rfl, by go_grown, ⟨0, rfl, fun h => absurd h (by omega)⟩, none, 0, rfl, World.ownsRow_nil _ _ _ _⟩
          case round =>
            obtain ⟨k, hk, rfl, hb, ⟨f, rfl, hf⟩, A5, c5, rfl, ho5⟩ := hrel
            by_cases hlt : k < n
            · obtain ⟨x, b, o, A3, c3, hx, hAe, hbB, cx, hx1, hx2, bx⟩ := (HT.out.to (HB1.out.trans (hb.mono HB1.out.size))).at_ hlt
              have hxl := H3.out x (List.mem_of_getElem? hx)
              obtain ⟨T, hT⟩ : ∃ T, sizes (l.take k) = T := ⟨_, rfl⟩
              have hTn := sizes_snoc _ _ _ hx
              have hTb := sizes_take l (k + 1)
              have hbn := bytesOf_snoc hx
              obtain ⟨F, hF⟩ : ∃ F, formed (k + 1) x = F := ⟨_, rfl⟩
              obtain ⟨m, hm⟩ : ∃ m, x.length + 10 = m := ⟨_, rfl⟩
              have KF := Lib.hid (form_good A3 x.length c3 (k + 1) m ((k : Int) + 1) x F wr bx (by omega) (by omega) (by omega) (by omega) hm hF)
              rw [hT] at ho5 hTn ⊢
              rw [hm] at hTn
              rw [hF] at hbn
              have b1 : T + m ≤ 3100 := by have := HSZ.out; omega
              have HTN := Lib.hid hTn
              have HBN := Lib.hid hbn
              have HB := Lib.hid hb
              have HO5 := Lib.hid ho5
              have HTT := Lib.hid hT
              have HFF := Lib.hid hf
              subst hAe
              clear hx hx1 bx hTn hTb hbn hb hm hF ho5 hT hf hxl
              have hki : (k : Int) < (n : Int) := by omega
              have hres : ∀ (W : World) (A7 : Option Addr) (c7 : Nat), Hid (Below w1.heap.size w1 W → W.ownsRow w1.heap.size 5 1 (.slice A7 (T + m) c7) (T + m) (bys (bytesOf 1 (l.take k)) ++ bys F) → ∃ A5 c5, Value.slice A7 (T + m) c7 = .slice A5 (sizes (l.take (k + 1))) c5 ∧ W.ownsRow w1.heap.size 5 1 (.slice A5 (sizes (l.take (k + 1))) c5) (sizes (l.take (k + 1))) (bys (bytesOf 1 (l.take (k + 1))))) := fun W A7 c7 => Lib.hid fun _ ho => ⟨A7, c7, by rw [HTN.out], by rw [HTN.out, HBN.out, bys_append]; exact ho⟩
              by_cases hkp : k = p
              · have i6 : ((k : Int) == (p : Int)) = true := by rw [beq_iff_eq]; omega
                have HKP := Lib.hid hkp
                clear hkp
                go_wp2_with fail
                refine KF.out.mono ?_
                rintro e w3 ⟨A4, c4, rfl, ho4, hb4⟩
                have HB3 := Lib.hid ((HB.out.trans (hb4.mono HB.out.size)) : Below w1.heap.size w1 w3)
                have hn5 : w3.ownsRow w1.heap.size 5 1 (.slice A5 T c5) T (bys (bytesOf 1 (l.take k))) := own_kept HO5.out hb4 (Nat.le_refl _)
                have by4 := Lib.hid (Bys.of_own ho4)
                have hs3 := HB3.out.size
                clear ho4 hb4 KF cx
                go_wp2_with (at_builtin; refine elemByte.list_append rfl (.tmp 56) (.tmp 57) rfl rfl hn5 rfl by4.out.reads (bys_one _) (by unfold maxLen; omega) (by omega) hs3 ?_; intro v4 w4 hown4 hg4 hat4; obtain ⟨A7, c7, hv4, _⟩ := own_shape hown4; subst hv4; change w3.grownBy w4 (Value.slice A5 T c5).ownBlock at hg4)
                have hfin : Below w1.heap.size w1 w4 := Below.grown HB3.out hg4 hs3 (fun q hq => (hn5.lt q hq).1)
                have HD5 := Lib.hid hown4
                have HF5 := Lib.hid hfin
                clear hn5 hown4 hg4 hat4 hfin hs3
                go_roundw
                case rel => exact ⟨k + 1, by omega, by go_num, HF5.out, ⟨T, rfl, fun _ => by rw [← HKP.out, HTT.out]⟩, (hres w4 A7 c7).out HF5.out HD5.out⟩
                case measure => simp [intOf]; omega
              · have i6 : ((k : Int) == (p : Int)) = false := by rw [beq_eq_false_iff_ne]; omega
                have HKP := Lib.hid hkp
                clear hkp
                go_wp2_with fail
                refine KF.out.mono ?_
                rintro e w3 ⟨A4, c4, rfl, ho4, hb4⟩
                have HB3 := Lib.hid ((HB.out.trans (hb4.mono HB.out.size)) : Below w1.heap.size w1 w3)
                have hn5 : w3.ownsRow w1.heap.size 5 1 (.slice A5 T c5) T (bys (bytesOf 1 (l.take k))) := own_kept HO5.out hb4 (Nat.le_refl _)
                have by4 := Lib.hid (Bys.of_own ho4)
                have hs3 := HB3.out.size
                clear ho4 hb4 KF cx
                go_wp2_with (at_builtin; refine elemByte.list_append rfl (.tmp 56) (.tmp 57) rfl rfl hn5 rfl by4.out.reads (bys_one _) (by unfold maxLen; omega) (by omega) hs3 ?_; intro v4 w4 hown4 hg4 hat4; obtain ⟨A7, c7, hv4, _⟩ := own_shape hown4; subst hv4; change w3.grownBy w4 (Value.slice A5 T c5).ownBlock at hg4)
                have hfin : Below w1.heap.size w1 w4 := Below.grown HB3.out hg4 hs3 (fun q hq => (hn5.lt q hq).1)
                have HD5 := Lib.hid hown4
                have HF5 := Lib.hid hfin
                clear hn5 hown4 hg4 hat4 hfin hs3
                go_roundw
                case rel => exact ⟨k + 1, by omega, by go_num, HF5.out, ⟨f, rfl, fun h => HFF.out (by have := HKP.out; omega)⟩, (hres w4 A7 c7).out HF5.out HD5.out⟩
                case measure => simp [intOf]; omega
            · obtain rfl : k = n := by omega
              obtain rfl : f = sizes (l.take p) := hf i4
              obtain ⟨x, b, o, A3, c3, hx, hAe, hbB, cx, hx1, hx2, bx⟩ := (HT.out.to (HB1.out.trans (hb.mono HB1.out.size))).at_ i4
              have hxl := H3.out x (List.mem_of_getElem? hx)
              have hsn := sizes_snoc _ _ _ hx
              have hst := sizes_take l (p + 1)
              have h4096 : ∀ y ∈ l, y.length ≤ 4096 := fun y hy => by have := H3.out y hy; omega
              obtain ⟨T, hT⟩ : ∃ T, sizes l = T := ⟨_, rfl⟩
              obtain ⟨D, hD⟩ : ∃ D, bytesOf 1 l = D := ⟨_, rfl⟩
              obtain ⟨f, hf'⟩ : ∃ f, sizes (l.take p) = f := ⟨_, rfl⟩
              rw [HNL.out, List.take_length, hT, hD] at ho5
              have hDl : D.length = T := by rw [← hD, bytesOf_length, hT]
              have hb3100 : T ≤ 3100 := by have := HSZ.out; omega
              obtain ⟨m, hm⟩ : ∃ m, x.length + 10 = m := ⟨_, rfl⟩
              rw [hf', hm] at hsn
              obtain ⟨q, hq, hqm⟩ : ∃ q : Nat, pick a2 (m : Int) = q ∧ q < m := by
                have h1 : 0 ≤ pick a2 (m : Int) ∧ pick a2 (m : Int) < (m : Int) := by
                  unfold pick
                  rw [if_neg (by omega)]
                  exact ⟨Int.emod_nonneg _ (by omega), Int.emod_lt_of_pos _ (by omega)⟩
                exact ⟨(pick a2 (m : Int)).toNat, by omega, by omega⟩
              have hfq : f + q < T := by omega
              have KP := Lib.hid (pick_any a2 (m : Int) wr ha (by omega))
              rw [hq] at KP
              have hmi : (x.length : Int) + 10 = (m : Int) := by omega
              have HBR := Lib.hid (HB1.out.trans (hb.mono HB1.out.size) : Below w.heap.size w wr)
              have HO5 := Lib.hid ho5
              have hll := HNL.out
              have HSC : Hid (∀ v : UInt8, (∀ y, D[f + q]? = some y → v ≠ y) → q ≠ 4 → q ≠ 5 → scan (D.set (f + q) v) = l.take p) := Lib.hid fun v hv h4 h5 => by
                have := scan_rot (v := v) h4096 (by omega) hx (n := q) (by omega) h4 h5 (by rw [hD, hf']; exact hv)
                rw [hD, hf', ← scan_eq] at this
                exact this
              have HF := Lib.hid hf'
              have HDL := Lib.hid hDl
              have hmx : m ≤ 310 := by omega
              rw [hf', HNL.out, List.take_length, hT, ← HNL.out]
              subst hAe
              have i6 : (p : Int) < (k : Int) := by omega
              clear ho5 hb hf hx hx1 hx2 bx hsn hst h4096 hT hD hf' hDl hq hll hlt hxl
              go_wp2_with fail
              refine KP.out.mono ?_
              rintro e w2 ⟨rfl, rfl⟩
              clear KP hmi hm
              by_cases h45 : q = 4 ∨ q = 5
              · have HW := HBR.out
                rcases h45 with h4 | h5
                · have i7 : ((q : Int) == 4) = true := by rw [beq_iff_eq]; omega
                  go_wp2_with fail
                  go_ret
                  exact ⟨rfl, HW⟩
                · have i7 : ((q : Int) == 4) = false := by rw [beq_eq_false_iff_ne]; omega
                  have i8 : ((q : Int) == 5) = true := by rw [beq_iff_eq]; omega
                  go_wp2_with fail
                  go_ret
                  exact ⟨rfl, HW⟩
              · have i7 : ((q : Int) == 4) = false := by rw [beq_eq_false_iff_ne]; omega
                have i8 : ((q : Int) == 5) = false := by rw [beq_eq_false_iff_ne]; omega
                have h4 : q ≠ 4 := by omega
                have h5 : q ≠ 5 := by omega
                clear h45
                obtain ⟨y, hy⟩ : ∃ y, D[f + q]? = some y := ⟨_, List.getElem?_eq_getElem (by have := HDL.out; omega)⟩
                obtain ⟨g, hg, hgb, hgl⟩ := own_some HO5.out (by omega)
                subst hg
                have cy : wr.cell? ⟨g, f + q, none⟩ = some (.int .u8 (y.toNat : Int)) := (HO5.out.cellAt (f + q) (by omega)).trans (by rw [bys_get, hy]; rfl)
                have fy : wr.frozen? ⟨g, f + q, none⟩ = false := HO5.out.frozenAt (f + q) 
                have hx8 := xor8 y z
                obtain ⟨hs1, hs2⟩ := HO5.out.stored (f + q) (.int .u8 ((y ^^^ z).toNat : Int))
                have hset : (bys D).set (f + q) (.int .u8 ((y ^^^ z).toNat : Int)) = bys (D.set (f + q) (y ^^^ z)) := by simp [bys, List.map_set]
                rw [hset] at hs1
                have hsc := HSC.out (y ^^^ z) (fun y' h' => by
                  rw [hy] at h'
                  injection h' with h'
                  subst h'
                  refine xor_ne fun e => HZ.out ?_
                  rw [e]; rfl) h4 h5
                obtain ⟨hcc1, hcc2⟩ := own_cap HO5.out
                have KS := Lib.hid (scan_any (some ⟨g, 0, none⟩) T c5 (D.set (f + q) (y ^^^ z)) (wr.setCell ⟨g, f + q, none⟩ (.int .u8 ((y ^^^ z).toNat : Int))) (Bys.of_own hs1) (by omega) hcc1 hcc2)
                rw [hsc, HF.out] at KS
                have hpl : (l.take p).length = p := by rw [List.length_take, HLEN.out]; omega
                rw [hpl] at KS
                have HWS := Lib.hid (HBR.out.setCell (p := ⟨g, f + q, none⟩) (by have := HB1.out.size; dsimp only; omega) (.int .u8 ((y ^^^ z).toNat : Int)))
                clear hy hs1 hs2 hset hsc hpl
                have hpk : p ≤ k := by omega
                go_wp2_with fail
                refine KS.out.mono ?_
                rintro e w3 ⟨A7, c7, vs7, rfl, ho7, ht7, hb7⟩
                have HB7 := Lib.hid (after HWS.out hb7)
                have KT := Lib.hid (sameTexts_any A7 _ p c7 p c (l.take p) (l.take p) w3 (Tx.of_own ho7 ht7) ((HT.out.to HB7.out).take hpk) (by omega) (by omega))
                rw [show decide (l.take p = l.take p) = true from decide_eq_true rfl] at KT
                clear ho7 ht7 hb7 KS cy fy hx8
                go_wp2_with fail
                refine KT.out.mono ?_
                rintro e w4 ⟨rfl, hb8⟩
                have HB8 := Lib.hid (after HB7.out hb8)
                clear hb8 KT
                go_wp2_with fail
                go_ret
                exact ⟨rfl, HB8.out⟩
theorem rot_walk2 (A : Option Addr) (n c : Nat) (l : List Bytes) (at_ a2 v : Int) (w : World) (h : Tx w w.heap.size A n l) (hnc : n ≤ c) (hc63 : c ≤ 9223372036854775807) (hat : -9223372036854775808 ≤ at_ ∧ at_ ≤ 9223372036854775807) (ha : -9223372036854775808 ≤ a2 ∧ a2 ≤ 9223372036854775807) (hv : 0 ≤ v ∧ v ≤ 255) :
    Calls Try.prog 6 #[.slice A n c, .int .i64 at_, .int .i64 a2, .int .u8 v] w fun e w' => e = .returned (.bool true) ∧ Below w.heap.size w w' := by
  have hz : ((UInt8.ofNat v.toNat).toNat : Int) = v := by
    rw [UInt8.toNat_ofNat']
    omega
  rw [← hz]
  exact rot_walk A n c l at_ a2 _ w h hnc hc63 hat ha
end Go.Proofs.Ytbkicepkkcambaa
