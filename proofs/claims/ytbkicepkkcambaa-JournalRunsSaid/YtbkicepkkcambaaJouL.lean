/- Restore, Form. -/
import Derived.Test.YtbkicepkkcambaaJouK
namespace Go.Proofs.Ytbkicepkkcambaa
open Go.RowKit BigFrame Go.Shelf
set_option linter.unusedVariables false
set_option linter.unusedSimpArgs false

theorem right_log (A : Option Addr) (n c : Nat) (p k : Int) (down : Bool) (d : Bytes) (w : World) (h : Bys w w.heap.size A n d) (hn : n ≤ 100000000000) (hc : n ≤ c) (hc63 : c ≤ 9223372036854775807) :
    Calls Try.prog 22 #[.agg #[.slice A n c, .int .i64 p, .int .i64 k, .bool down]] w fun e w' => e = .returned (.bool (rightB ⟨d, p, k, down⟩)) ∧ Below w.heap.size w w' := by
  refine (right_any A n c p k down d w h hn hc hc63).mono ?_
  rintro e w' ⟨rfl, hb⟩
  refine ⟨?_, hb⟩
  unfold rightB stoOk Lg.sto endOf
  rw [h.len, Bool.decide_and]
/-- Form. -/
def formR (k : Int) (x : Bytes) : Bytes × Int := if k < 1 ∨ 65536 < k ∨ 4096 < x.length then ([], 2) else (formed k.toNat x, 0)
/-- A call that hands back bytes and an error. -/
def GivesText (w : World) (r : Bytes × Int) (e : Ending) (w' : World) : Prop :=
  ∃ A c, e = .returned (.tuple #[.slice A r.1.length c, .int .i64 r.2]) ∧ w'.ownsRow w.heap.size 5 1 (.slice A r.1.length c) r.1.length (bys r.1) ∧ Below w.heap.size w w'
set_option maxRecDepth 100000 in
set_option maxHeartbeats 1000000 in
theorem form_any (A : Option Addr) (n c : Nat) (k : Int) (x : Bytes) (w : World) (h : Bys w w.heap.size A n x) (hn : n ≤ 100000000000) :
    Calls Try.prog 23 #[.int .i64 k, .slice A n c] w (GivesText w (formR k x)) := by
  have hlen := h.len
  by_cases hb : k < 1 ∨ 65536 < k ∨ 4096 < n
  · have HR := Lib.hid (show (([] : Bytes), (2 : Int)) = formR k x by unfold formR; rw [if_pos (by rw [hlen]; exact hb)])
    clear hlen
    have fin : ∀ w', w = w' → GivesText w (formR k x) (.returned (.tuple #[.slice none 0 0, .int .i64 2])) w' := by
      rintro w' rfl
      rw [← HR.out]
      exact ⟨none, 0, rfl, World.ownsRow_nil _ _ _ _, Below.refl _ _⟩
    by_cases h1 : k < 1
    · clear hb
      go_enter Try.func23, Try.ntmps23
      go_wp2_with fail
      go_ret2
      exact fin _ rfl
    · by_cases h2 : 65536 < k
      · clear hb
        go_enter Try.func23, Try.ntmps23
        go_wp2_with fail
        go_ret2
        exact fin _ rfl
      · have h3 : (4096 : Int) < n := by omega
        clear hb
        go_enter Try.func23, Try.ntmps23
        go_wp2_with fail
        go_ret2
        exact fin _ rfl
  · obtain ⟨q, rfl⟩ : ∃ q : Nat, k = q := ⟨k.toNat, by omega⟩
    have HR := Lib.hid (show (formed q x, (0 : Int)) = formR q x by unfold formR; rw [if_neg (by rw [hlen]; exact hb)]; rfl)
    have HL := Lib.hid (show (formed q x).length = n + 10 by rw [formed_length, hlen])
    have h1 : ¬ (q : Int) < 1 := by omega
    have h2 : ¬ (65536 : Int) < q := by omega
    have h3 : ¬ (4096 : Int) < n := by omega
    have KF := Lib.hid (formed_any q A n c x w h (by omega) (by omega))
    clear hb hlen
    go_enter Try.func23, Try.ntmps23
    go_wp2_with fail
    refine KF.out.mono ?_
    rintro e w1 ⟨A1, c1, rfl, ho1, hb1⟩
    have HO := Lib.hid ho1
    clear ho1
    go_wp2_with fail
    go_ret2
    rw [← HR.out]
    refine ⟨A1, c1, ?_, ?_, hb1⟩
    · rw [HL.out]; rfl
    · rw [HL.out]; exact HO.out
theorem end_sto2 {w w3 : World} {n c : Nat} {A : Option Addr} {l : Bytes} {p er : Int} (h : w3.ownsRow (w.heap.size + 2) 5 1 (.slice A n c) n (bys l)) (hB : Below w.heap.size w w3) (hl : l.length = n) (u1 u2 : Value) :
    GivesSto w (⟨l, p⟩, er) (.returned (.tuple #[.agg #[.slice A n c, .int .i64 p], .int .i64 er])) ((w3.setCell ⟨w.heap.size + 1, 0, none⟩ u1).setCell ⟨w.heap.size + 1, 1, none⟩ u2) := by
  subst hl
  refine ⟨A, c, rfl, own_set (own_set (own_more h (by omega)) ?_ _) ?_ _, (hB.setCell (by simp) _).setCell (by simp) _⟩
  all_goals
    intro k hk e
    have := h.lt k hk
    dsimp only at e
    omega
set_option maxRecDepth 100000 in
set_option maxHeartbeats 2000000 in
theorem restore_any (A : Option Addr) (n c : Nat) (p k power : Int) (down : Bool) (d : Bytes) (w : World) (h : Bys w w.heap.size A n d) (hn : n ≤ 10000000000) (hnc : n ≤ c) (hc63 : c ≤ 9223372036854775807) :
    Calls Try.prog 10 #[.agg #[.slice A n c, .int .i64 p, .int .i64 k, .bool down], .int .i64 power] w (GivesSto w (restoreR ⟨d, p, k, down⟩ power)) := by
  cases hv : rightB ⟨d, p, k, down⟩ with
  | false =>
    have HR := Lib.hid (show (Sto.zero, (2 : Int)) = restoreR ⟨d, p, k, down⟩ power by unfold restoreR; rw [if_pos (.inl hv)])
    have HV := Lib.hid hv
    have HH := Lib.hid h
    clear hv h
    go_enter Try.func10, Try.ntmps10
    go_wp2_with fail
    refine (right_log A n c p k down d _ (HH.out.to (by go_grown)) (by omega) hnc hc63).mono ?_
    rintro e w1 ⟨rfl, hb1⟩
    rw [HV.out]
    obtain ⟨hc, hf⟩ := bcell hb1
    have hz : w.heap.size + 1 < w1.heap.size := by have := hb1.size; simp at this; omega
    have HB1 := Lib.hid (Below.trans (by go_grown) (hb1.mono (by first | omega | (simp; done) | (simp; omega))) : Below w.heap.size w w1)
    go_wp2_with fail
    refine bodyPost_ret (v := .tuple #[.agg #[.slice none 0 0, .int .i64 0], .int .i64 2]) (by simp [results, Try.results10, go_sem, hc, hf, hz]) rfl ?_
    exact HR.out ▸ gives_zero 2 ((HB1.out.setCell (by simp) _).setCell (by simp) _)
  | true =>
    by_cases h1 : power < -1
    · have HR := Lib.hid (show (Sto.zero, (2 : Int)) = restoreR ⟨d, p, k, down⟩ power by unfold restoreR; rw [if_pos (.inr h1)])
      have HV := Lib.hid hv
      have HH := Lib.hid h
      clear hv h
      go_enter Try.func10, Try.ntmps10
      go_wp2_with fail
      refine (right_log A n c p k down d _ (HH.out.to (by go_grown)) (by omega) hnc hc63).mono ?_
      rintro e w1 ⟨rfl, hb1⟩
      rw [HV.out]
      obtain ⟨hc, hf⟩ := bcell hb1
      have hz : w.heap.size + 1 < w1.heap.size := by have := hb1.size; simp at this; omega
      have HB1 := Lib.hid (Below.trans (by go_grown) (hb1.mono (by first | omega | (simp; done) | (simp; omega))) : Below w.heap.size w w1)
      go_wp2_with fail
      refine bodyPost_ret (v := .tuple #[.agg #[.slice none 0 0, .int .i64 0], .int .i64 2]) (by simp [results, Try.results10, go_sem, hc, hf, hz]) rfl ?_
      exact HR.out ▸ gives_zero 2 ((HB1.out.setCell (by simp) _).setCell (by simp) _)
    · have HR := Lib.hid (show ((⟨d, power⟩ : Sto), (0 : Int)) = restoreR ⟨d, p, k, down⟩ power by unfold restoreR; rw [if_neg (by simp [hv]; omega)])
      have HL := Lib.hid h.len
      have HV := Lib.hid hv
      have HH := Lib.hid h
      clear hv h
      go_enter Try.func10, Try.ntmps10
      go_wp2_with fail
      refine (right_log A n c p k down d _ (HH.out.to (by go_grown)) (by omega) hnc hc63).mono ?_
      rintro e w1 ⟨rfl, hb1⟩
      rw [HV.out]
      obtain ⟨hc, hf⟩ := bcell hb1
      have hz : w.heap.size + 1 < w1.heap.size := by have := hb1.size; simp at this; omega
      have HB1 := Lib.hid (Below.trans (by go_grown) (hb1.mono (by first | omega | (simp; done) | (simp; omega))) : Below w.heap.size w w1)
      have x1 := Lib.hid ((hb1.block (w.heap.size + 1) (by first | omega | (simp; done) | (simp; omega))).trans (show _ = some (Obj.cells #[.slice none 0 0, .int .i64 0] 27 (0, 0)) from (by (try rw [get_drew]); simp only [get_alloc, get_set, World.size_alloc, World.size_setCell]; simp [Nat.add_assoc])))
      have KC := Lib.hid (clone_byte A n c d w1 ((HH.out.later (Nat.le_refl _) HB1.out).more HB1.out.size) (by omega))
      clear hb1
      go_wp2_with fail
      refine KC.out.mono ?_
      rintro e w3 ⟨A3, c3, rfl, ho3, hb3⟩
      have r1 := (hb3.block (w.heap.size + 1) (row_lt x1.out)).trans x1.out
      have HB3 := Lib.hid (HB1.out.trans (hb3.mono HB1.out.size) : Below w.heap.size w w3)
      have HO3 := Lib.hid (own_more ho3 (by omega) : w3.ownsRow (w.heap.size + 2) 5 1 (.slice A3 n c3) n (bys d))
      have d0 := cell_of_row _ _ 0 _ _ _ r1
      have d1 := cell_of_row _ _ 1 _ _ _ r1
      have g0 := frozen_of_row _ _ 0 _ _ r1
      have g1 := frozen_of_row _ _ 1 _ _ r1
      have l1 := row_lt r1
      clear hb3 ho3 hc hf
      go_wp2_with fail
      refine bodyPost_ret (v := .tuple #[.agg #[.slice A3 n c3, .int .i64 power], .int .i64 0]) (by simp [results, Try.results10, go_sem, d0, d1]) rfl ?_
      exact HR.out ▸ end_sto2 HO3.out HB3.out HL.out _ _
end Go.Proofs.Ytbkicepkkcambaa
