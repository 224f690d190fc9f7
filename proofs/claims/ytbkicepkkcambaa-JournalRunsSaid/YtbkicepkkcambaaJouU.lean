/- The reference: Form. -/
import Derived.Test.YtbkicepkkcambaaJouQ
namespace Go.Proofs.Ytbkicepkkcambaa
open Go.RowKit BigFrame Go.Shelf
set_option linter.unusedVariables false
set_option linter.unusedSimpArgs false

set_option maxRecDepth 100000 in
set_option maxHeartbeats 2000000 in
theorem refform_any (A : Option Addr) (n c : Nat) (k : Int) (x : Bytes) (w : World) (h : Bys w w.heap.size A n x) (hn : n ≤ 100000000000) :
    Calls Try.prog 36 #[.int .i64 k, .slice A n c] w (GivesText w (formR k x)) := by
  have hlen := h.len
  by_cases hb : k < 1 ∨ 65536 < k ∨ 4096 < n
  · have HR := Lib.hid (show (([] : Bytes), (2 : Int)) = formR k x by unfold formR; rw [if_pos (by rw [hlen]; exact hb)])
    clear hlen
    have fin : ∀ w', w = w' → GivesText w (formR k x) (.returned (.tuple #[.slice none 0 0, .int .i64 2])) w' := by
      rintro w' rfl
      rw [← HR.out]
      exact ⟨none, 0, rfl, World.ownsRow_nil _ _ _ _, Below.refl _ _⟩
    by_cases h1 : k < 1
    · clear hb
      go_enter Try.func36, Try.ntmps36
      go_wp2_with fail
      go_ret2
      exact fin _ rfl
    · by_cases h2 : 65536 < k
      · clear hb
        go_enter Try.func36, Try.ntmps36
        go_wp2_with fail
        go_ret2
        exact fin _ rfl
      · have h3 : (4096 : Int) < n := by omega
        clear hb
        go_enter Try.func36, Try.ntmps36
        go_wp2_with fail
        go_ret2
        exact fin _ rfl
  · obtain ⟨q, rfl⟩ : ∃ q : Nat, k = q := ⟨k.toNat, by omega⟩
    have HR := Lib.hid (show (formed q x, (0 : Int)) = formR q x by unfold formR; rw [if_neg (by rw [hlen]; exact hb)]; rfl)
    have h1 : ¬ (q : Int) < 1 := by omega
    have h2 : ¬ (65536 : Int) < q := by omega
    have h3 : ¬ (4096 : Int) < n := by omega
    have hq5 : q ≤ 65536 := by omega
    have hn4 : n ≤ 4096 := by omega
    have HH := Lib.hid h
    have HLEN := Lib.hid hlen
    clear hb hlen h
    go_enter Try.func36, Try.ntmps36
    go_wp2_with fail
    refine (spread_any q 4 w (by omega) (by omega)).mono ?_
    rintro e w1 ⟨A1, c1, rfl, ho1, hb1⟩
    have hs1 := hb1.size
    go_wp2_with fail
    refine (spread_any n 2 w1 (by omega) (by omega)).mono ?_
    rintro e w2 ⟨A2, c2, rfl, ho2, hb2⟩
    have ho1' := own_kept ho1 hb2 (Nat.le_refl _)
    have hB2 : Below w.heap.size w w2 := hb1.trans (hb2.mono hs1)
    have by2 := Bys.of_own ho2
    have hs2 := hB2.size
    have HB2 := Lib.hid hB2
    clear ho1 ho2 hb1 hb2 hB2
    go_wp2_with (first
      | (at_builtin; refine elemByte.list_append rfl (.tmp 19) (.tmp 22) rfl rfl ho1' rfl by2.reads (bys_one _) (by unfold maxLen; omega) (by omega) hs2 ?_; intro v3 w3 hown3 hg3 hat3; obtain ⟨A3, c3, hv3, _⟩ := own_shape hown3; subst hv3; have hb3 : Below w.heap.size w w3 := Below.grown HB2.out hg3 hs2 (fun k hk => (ho1'.lt k hk).1); have hs3 := hb3.size; clear hg3 hat3)
      | (at_builtin; refine elemByte.list_append rfl (.tmp 23) (.tmp 24) rfl rfl hown3 rfl ((HH.out.to hb3).reads) (bys_one _) (by unfold maxLen; omega) (by omega) hs3 ?_; intro v4 w4 hown4 hg4 hat4; obtain ⟨A4, c4, hv4, _⟩ := own_shape hown4; subst hv4; have hb4 : Below w.heap.size w w4 := Below.grown hb3 hg4 hs3 (fun k hk => (hown3.lt k hk).1); have hs4 := hb4.size; clear hg4 hat4))
    have hhd : bys (le q 4) ++ bys (le n 2) ++ bys x = bys (headOf q x) := by unfold headOf; rw [HLEN.out, bys_append, bys_append]
    rw [hhd] at hown4
    have by4 := Bys.of_own hown4
    have HO4 := Lib.hid hown4
    have HB4 := Lib.hid hb4
    have hcl := check_lt (headOf q x)
    have HF : formed q x = headOf q x ++ le (check (headOf q x)) 4 := rfl
    have HFF := Lib.hid HF
    have HFL := Lib.hid (show (formed q x).length = n + 10 by rw [formed_length, HLEN.out])
    generalize headOf q x = hd at *
    clear hown3 hown4 hb3 hb4 hhd HF ho1' by2
    refine (check_any A4 (4 + 2 + n) c4 hd w4 by4 (by omega)).mono ?_
    rintro e w5 ⟨rfl, rfl⟩
    go_wp2_with fail
    refine (spread_any (check hd) 4 w4 hcl (by omega)).mono ?_
    rintro e w6 ⟨A6, c6, rfl, ho6, hb6⟩
    have hn4' := own_kept HO4.out hb6 (Nat.le_refl _)
    have by6 := Bys.of_own ho6
    have hb7 := HB4.out.trans (hb6.mono hs4)
    have hs7 := hb7.size
    have HB7 := Lib.hid hb7
    clear ho6 hb6 hb7
    go_wp2_with (at_builtin; refine elemByte.list_append rfl (.tmp 26) (.tmp 29) rfl rfl hn4' rfl by6.reads (bys_one _) (by unfold maxLen; omega) (by omega) hs7 ?_; intro v8 w8 hown8 hg8 hat8; obtain ⟨A8, c8, hv8, _⟩ := own_shape hown8; subst hv8; have hb8 : Below w.heap.size w w8 := Below.grown HB7.out hg8 hs7 (fun k hk => (hn4'.lt k hk).1); have HB8 := Lib.hid hb8; have HO8 := Lib.hid hown8; clear hg8 hat8 hb8 hown8)
    go_ret2
    rw [← HR.out]
    have hl : 4 + 2 + n + 4 = n + 10 := by omega
    have ho := HO8.out
    rw [← bys_append, ← HFF.out, hl] at ho
    refine ⟨A8, c8, ?_, ?_, HB8.out⟩
    · rw [HFL.out, ← hl]; rfl
    · rw [HFL.out]; exact ho
end Go.Proofs.Ytbkicepkkcambaa
