/- JournalPrefix: the walk. -/
import Derived.Test.YtbkicepkkcambaaJouRead
import Derived.Test.YtbkicepkkcambaaJouA
namespace Go.Proofs.Ytbkicepkkcambaa
open Go.RowKit BigFrame Go.Shelf
set_option linter.unusedVariables false
set_option linter.unusedSimpArgs false

theorem elemInt : ElemT Try.prog 22 3 (.int .i64 0) 1 8 := ⟨Try.underlying22, by kernel_rfl, rfl, by omega⟩
/-- Where the records end, from 0 on. -/
def endsOf (l : List Bytes) (k : Nat) : List Value := (List.range (k + 1)).map fun j => .int .i64 ((sizes (l.take j) : Nat) : Int)
theorem endsOf_snoc (l : List Bytes) (k : Nat) : endsOf l (k + 1) = endsOf l k ++ [.int .i64 ((sizes (l.take (k + 1)) : Nat) : Int)] := by
  unfold endsOf
  rw [List.range_succ (n := k + 1), List.map_append]
  rfl
theorem endsOf_at (l : List Bytes) {k j : Nat} (h : j ≤ k) : (endsOf l k)[j]? = some (.int .i64 ((sizes (l.take j) : Nat) : Int)) := by
  unfold endsOf
  rw [List.getElem?_map, List.getElem?_range (by omega)]
  rfl
theorem bytesOf_snoc {l : List Bytes} {k : Nat} {x : Bytes} (h : l[k]? = some x) : bytesOf 1 (l.take (k + 1)) = bytesOf 1 (l.take k) ++ formed (k + 1) x := by
  have hk := (List.getElem?_eq_some_iff.1 h).1
  rw [List.take_add_one, h, bytesOf_append, List.length_take, show min k l.length = k by omega, Nat.add_comm 1 k]
  simp [bytesOf]
theorem sizes_small : ∀ {l : List Bytes}, (∀ x ∈ l, x.length ≤ 300) → sizes l ≤ l.length * 310
  | [], _ => by simp [sizes]
  | p :: l, h => by
    have := sizes_small (l := l) fun x hx => h x (by simp [hx])
    have := h p (by simp)
    rw [sizes_cons, List.length_cons]
    omega

set_option maxRecDepth 100000 in
set_option maxHeartbeats 4000000 in
theorem prefix_walk (A : Option Addr) (n c : Nat) (l : List Bytes) (a1 : Int) (w : World) (h : Tx w w.heap.size A n l) (hnc : n ≤ c) (hc63 : c ≤ 9223372036854775807) (ha : -9223372036854775808 ≤ a1 ∧ a1 ≤ 9223372036854775807) :
    Calls Try.prog 5 #[.slice A n c, .int .i64 a1] w fun e w' => e = .returned (.bool true) ∧ Below w.heap.size w w' := by
  have HT := Lib.hid h
  have HLEN := Lib.hid h.len
  clear h
  cases hs : shortB l 20 with
  | false =>
    have HS := Lib.hid hs
    clear hs
    go_enter Try.func5, Try.ntmps5
    go_wp2_with fail
    refine (awake_any w).mono ?_
    rintro e w1 ⟨rfl, hb1⟩
    go_wp2_with fail
    refine (short_any A n c 20 l w1 (HT.out.to hb1) (by omega) (by omega) (by omega)).mono ?_
    rintro e w2 ⟨rfl, rfl⟩
    rw [HS.out]
    go_wp2_with fail
    go_ret
    exact ⟨rfl, hb1⟩
  | true =>
    have HS := Lib.hid hs
    obtain ⟨h20, h300⟩ : l.length ≤ 20 ∧ ∀ x ∈ l, x.length ≤ 300 := by
      unfold shortB at hs
      rw [decide_eq_true_iff] at hs
      exact ⟨by omega, hs.2⟩
    have H3 := Lib.hid h300
    have hnl : n = l.length := HLEN.out.symm
    have h20' : n ≤ 20 := by omega
    have HNL := Lib.hid hnl
    have hsz : sizes l ≤ 6200 := Nat.le_trans (sizes_small h300) (by omega)
    have HSZ := Lib.hid hsz
    clear hs h300 hnl hsz
    go_enter Try.func5, Try.ntmps5
    go_wp2_with fail
    refine (awake_any w).mono ?_
    rintro e w1 ⟨rfl, hb1⟩
    have HB1 := Lib.hid hb1
    go_wp2_with fail
    refine (short_any A n c 20 l w1 (HT.out.to hb1) (by omega) (by omega) (by omega)).mono ?_
    rintro e w2 ⟨rfl, rfl⟩
    rw [HS.out]
    clear hb1
    go_wp2_with fail
    go_loopw [5, 6, 7] (fun vd ve i wr => ∃ k : Nat, k ≤ n ∧ i = .int .i64 k ∧ Below w1.heap.size w1 wr ∧ ∃ A5 c5 A6 c6, vd = .slice A5 (sizes (l.take k)) c5 ∧ ve = .slice A6 (k + 1) c6 ∧ wr.ownsRow w1.heap.size 5 1 (.slice A5 (sizes (l.take k)) c5) (sizes (l.take k)) (bys (bytesOf 1 (l.take k))) ∧ wr.ownsRow w1.heap.size 3 1 (.slice A6 (k + 1) c6) (k + 1) (endsOf l k)) (fun _ _ i _ => n - (intOf i).toNat)
    case atStart => exact ⟨0, Nat.zero_le _, rfl, by go_grown, none, 0, some ⟨w1.heap.size, 0, none⟩, 1, rfl, rfl, World.ownsRow_nil _ _ _ _, World.ownsRow_lit w1 #[.int .i64 0] 1 (Nat.le_refl _) (by unfold maxLen; omega) rfl⟩
    case round =>
      obtain ⟨k, hk, rfl, hb, A5, c5, A6, c6, rfl, rfl, ho5, ho6⟩ := hrel
      by_cases hlt : k < n
      · obtain ⟨x, b, o, A3, c3, hx, hAe, hbB, cx, hx1, hx2, bx⟩ := (HT.out.to (HB1.out.trans (hb.mono HB1.out.size))).at_ hlt
        have hxl := H3.out x (List.mem_of_getElem? hx)
        obtain ⟨T, hT⟩ : ∃ T, sizes (l.take k) = T := ⟨_, rfl⟩
        have hTn := sizes_snoc _ _ _ hx
        have hTb := sizes_take l (k + 1)
        have hbn := bytesOf_snoc hx
        have hen := endsOf_snoc l k
        obtain ⟨F, hF⟩ : ∃ F, formed (k + 1) x = F := ⟨_, rfl⟩
        obtain ⟨m, hm⟩ : ∃ m, x.length + 10 = m := ⟨_, rfl⟩
        have KF := Lib.hid (form_good A3 x.length c3 (k + 1) m ((k : Int) + 1) x F wr bx (by omega) (by omega) (by omega) (by omega) hm hF)
        rw [hT] at ho5 hTn ⊢
        rw [hm] at hTn
        rw [hF] at hbn
        have b1 : T + m ≤ 6200 := by have := HSZ.out; omega
        have b2 : 10 ≤ m := by omega
        have i7 : ((m : Int) != (x.length : Int) + 10) = false := by simp; omega
        have i8 : ((m : Int) == (x.length : Int) + 10) = true := by simp; omega
        have HTN := Lib.hid hTn
        have HBN := Lib.hid hbn
        have HEN := Lib.hid hen
        have HB := Lib.hid hb
        have HO5 := Lib.hid ho5
        have HO6 := Lib.hid ho6
        have hxm : x.length ≤ 300 := hxl
        subst hAe
        have CX := fun W (hW : Below wr.heap.size wr W) => Lib.hid ((hW.cell (p := ⟨b, o + k, none⟩) hbB).trans cx)
        clear hx hx1 bx hTn hTb hbn hen hb hm hF ho5 ho6 hT
        have hki : (k : Int) < (n : Int) := by omega
        go_wp2_with fail
        refine KF.out.mono ?_
        rintro e w3 ⟨A4, c4, rfl, ho4, hb4⟩
        have cx3 := (CX _ hb4).out
        have HB3 := Lib.hid ((HB.out.trans (hb4.mono HB.out.size)) : Below w1.heap.size w1 w3)
        have hn5 : w3.ownsRow w1.heap.size 5 1 (.slice A5 T c5) T (bys (bytesOf 1 (l.take k))) := own_kept HO5.out hb4 (Nat.le_refl _)
        have hn6 : w3.ownsRow w1.heap.size 3 1 (.slice A6 (k + 1) c6) (k + 1) (endsOf l k) := own_kept HO6.out hb4 (Nat.le_refl _)
        have HN6 := Lib.hid hn6
        have by4 := Lib.hid (Bys.of_own ho4)
        have hs3 := HB3.out.size
        clear ho4 hb4 KF cx CX hn6
        go_wp2_with (first
          | (at_builtin; refine elemByte.list_append rfl (.tmp 49) (.tmp 50) rfl rfl hn5 rfl by4.out.reads (bys_one _) (by unfold maxLen; omega) (by omega) hs3 ?_; intro v4 w4 hown4 hg4 hat4; obtain ⟨A7, c7, hv4, _⟩ := own_shape hown4; subst hv4; change w3.grownBy w4 (Value.slice A5 T c5).ownBlock at hg4; have hs4 : w1.heap.size ≤ w4.heap.size := Nat.le_trans hs3 hg4.size)
          | (at_builtin; refine elemInt.list_append rfl (.tmp 52) (.tmp 55) rfl rfl ((own_grown HN6.out hg4 (fun q hq => own_ne HN6.out hn5 (by decide) hq)).alloc _) rfl (reads_one w4 _ _ rfl) (by simp [Value.oneCell']) (by unfold maxLen; omega) (by omega) (by simp; omega) ?_; intro v5 w5 hown5 hg5 hat5; obtain ⟨A8, c8, hv5, _⟩ := own_shape hown5; subst hv5; change (World.alloc w4 _).grownBy w5 (Value.slice A6 (k + 1) c6).ownBlock at hg5))
        have hrow6 := (own_grown HN6.out hg4 (fun q hq => own_ne HN6.out hn5 (by decide) hq)).alloc (.cells #[.int .i64 ((T : Int) + m)] 3)
        have hfin : Below w1.heap.size w1 w5 := Below.grown ((Below.grown HB3.out hg4 hs3 (fun q hq => (hn5.lt q hq).1)).alloc hs4 _) hg5 (by simp; omega) (fun q hq => (hrow6.lt q hq).1)
        have hd5 : w5.ownsRow w1.heap.size 5 1 (.slice A7 (T + m) c7) (T + m) (bys (bytesOf 1 (l.take k)) ++ bys F) := own_grown (hown4.alloc _) hg5 (fun q hq => own_ne (hown4.alloc _) hrow6 (by decide) hq)
        have HD5 := Lib.hid hd5
        have HE5 := Lib.hid hown5
        have HF5 := Lib.hid hfin
        clear hn5 hown4 hg4 hat4 hown5 hg5 hat5 hrow6 hd5 hfin hs4 hs3
        go_roundw
        case rel =>
          refine ⟨k + 1, by omega, by go_num, HF5.out, A7, c7, A8, c8, by rw [HTN.out], rfl, ?_, ?_⟩
          · rw [HTN.out, HBN.out, bys_append]; exact HD5.out
          · have := HE5.out
            rw [HEN.out, HTN.out]
            simpa using this
        case measure => simp [intOf]; omega
      · obtain rfl : k = n := by omega
        have hsm := H3.out
        obtain ⟨T, hT⟩ : ∃ T, sizes l = T := ⟨_, rfl⟩
        obtain ⟨D, hD⟩ : ∃ D, bytesOf 1 l = D := ⟨_, rfl⟩
        rw [HNL.out, List.take_length, hT, hD] at ho5
        have hb6200 : T ≤ 6200 := by have := HSZ.out; omega
        have hll := HNL.out
        have h4096 : ∀ p ∈ l, p.length ≤ 4096 := fun p hp => by have := hsm p hp; omega
        have hDs : scan D = l := by
          have := scanAt_bytes l 1 [] h4096 (by omega)
          rw [List.append_nil, scanAt_none (nextR_nil _), List.append_nil, hD] at this
          exact this
        obtain ⟨q, hq, hqT⟩ : ∃ q : Nat, pick a1 ((T : Int) + 1) = q ∧ q ≤ T := by
          have h1 : 0 ≤ pick a1 ((T : Int) + 1) ∧ pick a1 ((T : Int) + 1) < (T : Int) + 1 := by
            unfold pick
            rw [if_neg (by omega)]
            exact ⟨Int.emod_nonneg _ (by omega), Int.emod_lt_of_pos _ (by omega)⟩
          exact ⟨(pick a1 ((T : Int) + 1)).toNat, by omega, by omega⟩
        obtain ⟨j, hj, hsc, hse, hor⟩ := scan_take l 1 q h4096 (by omega) (by omega)
        rw [← scan_eq, hD] at hsc
        obtain ⟨E, hE⟩ : ∃ E, sizes (l.take j) = E := ⟨_, rfl⟩
        rw [hE] at hse
        have hjl : (l.take j).length = j := by rw [List.length_take]; omega
        obtain ⟨hc1, hc2⟩ := own_cap ho5
        obtain ⟨g, hg, _, hgl⟩ := own_some ho6 (by omega)
        subst hg
        have cj : wr.cell? ⟨g, j, none⟩ = some (.int .i64 (E : Int)) := by
          rw [ho6.cellAt j (by omega), endsOf_at l (by omega), hE]
        have cj1 : j < k → wr.cell? ⟨g, j + 1, none⟩ = some (.int .i64 ((sizes (l.take (j + 1)) : Nat) : Int)) := fun h => by
          rw [ho6.cellAt (j + 1) (by omega), endsOf_at l (by omega)]
        have HBR := Lib.hid (HB1.out.trans (hb.mono HB1.out.size) : Below w.heap.size w wr)
        have KP := Lib.hid (pick_any a1 ((T : Int) + 1) wr ha (by omega))
        rw [hq] at KP
        have byD := Lib.hid (Bys.of_own ho5)
        have KS1 := Lib.hid (scan_any A5 q c5 (D.take q) wr (byD.out.cutTo hqT) (by omega) (by omega) hc2)
        rw [hsc, hE, hjl] at KS1
        have KS2 := Lib.hid (fun W hW => scan_any A5 T c5 D W (byD.out.to hW) (by omega) hc1 hc2)
        rw [hDs, hT, ← HNL.out] at KS2
        have HOR := Lib.hid hor
        have HJ := Lib.hid hjl
        have CJ := fun W (hW : Below wr.heap.size wr W) => Lib.hid ((hW.cell (p := ⟨g, j, none⟩) hgl).trans cj)
        have CJ1 := fun W (hW : Below wr.heap.size wr W) (h : j < k) => Lib.hid ((hW.cell (p := ⟨g, j + 1, none⟩) hgl).trans (cj1 h))
        obtain ⟨N1, hN1⟩ : ∃ N1, k + 1 = N1 := ⟨_, rfl⟩
        rw [HNL.out, List.take_length, hT, ← HNL.out, hN1]
        have b1 : N1 = k + 1 := hN1.symm
        have hjk : j ≤ k := by omega
        have b2 : j < N1 := by omega
        have b3 : N1 ≤ 21 := by omega
        have HN1 := Lib.hid b1
        clear hN1 b1 ho5 ho6 hb hsm hT hD h4096 hDs hq hj hsc hE hjl cj cj1 hor hlt hll
        go_wp2_with fail
        refine KP.out.mono ?_
        rintro e w2 ⟨rfl, rfl⟩
        clear KP
        go_wp2_with fail
        refine KS1.out.mono ?_
        rintro e w3 ⟨A7, c7, vs7, rfl, ho7, ht7, hb7⟩
        have TP := Lib.hid (Tx.of_own ho7 ht7)
        have HB7 := Lib.hid hb7
        clear ho7 ht7 KS1
        go_wp2_with fail
        refine (KS2.out w3 hb7).mono ?_
        rintro e w4 ⟨A8, c8, vs8, rfl, ho8, ht8, hb8⟩
        have HB8 := Lib.hid (after HB7.out hb8)
        have KT := Lib.hid (sameTexts_any A8 A k c8 k c l l w4 (Tx.of_own ho8 ht8) (HT.out.to (HBR.out.trans (HB8.out.mono HBR.out.size))) (by omega) (by omega))
        rw [show decide (l = l) = true from decide_eq_true rfl] at KT
        have TP2 := Lib.hid (TP.out.to hb8)
        clear ho8 ht8 hb8 hb7 KS2 TP
        go_wp2_with fail
        refine KT.out.mono ?_
        rintro e w5 ⟨rfl, hb9⟩
        have HB9 := Lib.hid (after HB8.out hb9)
        have TP3 := Lib.hid (TP2.out.to hb9)
        have hcj := (CJ w5 HB9.out).out
        have hjl : (l.take j).length = j := HJ.out
        have KT2 := Lib.hid (sameTexts_any A7 A j c7 j c (l.take j) (l.take j) w5 TP3.out ((HT.out.to (HBR.out.trans (HB9.out.mono HBR.out.size))).take hjk) (by omega) (by omega))
        rw [show decide (l.take j = l.take j) = true from decide_eq_true rfl] at KT2
        have i1 : (j : Int) < (N1 : Int) := by omega
        have i2 : (0 : Int) ≤ (j : Int) := by omega
        have i3 : (E : Int) ≤ (q : Int) := by omega
        clear hb9 KT TP2 TP3 CJ hjl
        go_wp2_with fail
        refine KT2.out.mono ?_
        rintro e w6 ⟨rfl, hb10⟩
        have HB10 := Lib.hid (after HB9.out hb10)
        have HW := Lib.hid (HBR.out.trans (HB10.out.mono HBR.out.size))
        clear hb10 KT2 hcj
        by_cases hjn : j = k
        · have i4 : ((j : Int) == (k : Int)) = true := by rw [beq_iff_eq]; omega
          clear hjn CJ1
          go_wp2_with fail
          go_ret
          exact ⟨rfl, HW.out⟩
        · have i4 : ((j : Int) == (k : Int)) = false := by rw [beq_eq_false_iff_ne]; omega
          have hlt : j < k := by omega
          have hc1' := (CJ1 w6 HB10.out hlt).out
          obtain ⟨G, hG⟩ : ∃ G, sizes (l.take (j + 1)) = G := ⟨_, rfl⟩
          have hqG : q < G := by
            rcases HOR.out with h | h
            · have := HNL.out; omega
            · rwa [hG] at h
          rw [hG] at hc1'
          have i5 : (q : Int) < (G : Int) := by omega
          have i6 : (j : Int) + 1 < (N1 : Int) := by have := HN1.out; omega
          clear hjn CJ1 hG
          go_wp2_with fail
          go_ret
          exact ⟨rfl, HW.out⟩
end Go.Proofs.Ytbkicepkkcambaa
