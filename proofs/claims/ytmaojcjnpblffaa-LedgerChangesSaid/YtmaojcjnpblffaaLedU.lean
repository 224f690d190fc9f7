/- The reference's At, Post and Learn. -/
import Derived.Test.YtmaojcjnpblffaaLedS
namespace Go.Proofs.Ytmaojcjnpblffaa
open Go.RowKit BigFrame
set_option linter.unusedVariables false

theorem upTo_snoc {d : Int} {l : List Paid} {k : Nat} {x : Paid} (hx : l[k]? = some x) : upTo d (l.take (k + 1)) = upTo d (l.take k) ++ (if x.day ≤ d then [x] else []) := by
  unfold upTo
  rw [List.take_add_one, hx, List.filter_append]
  congr 1
  by_cases h : x.day ≤ d
  · rw [if_pos h]; simp [show ¬ d < x.day by omega]
  · rw [if_neg h]; simp [show d < x.day by omega]
theorem upTo_len (d : Int) (l : List Paid) (k : Nat) : (upTo d (l.take k)).length ≤ k := Nat.le_trans (List.length_filter_le _ _) (List.length_take_le _ _)

set_option maxRecDepth 100000 in
set_option maxHeartbeats 2000000 in
theorem rat_any (A : Option Addr) (n c : Nat) (A' : Option Addr) (n' c' : Nat) (L : Led) (d : Int) (w : World) (h : LedIn w w.heap.size A n A' n' L) (hn4 : n' ≤ 5000) :
    Calls Try.prog 28 #[.agg #[.int .i64 L.start, .slice A n c, .slice A' n' c'], .int .i64 d] w fun e w' => ∃ A2 c2, e = .returned (.agg #[.int .i64 L.start, .slice A n c, .slice A2 (upTo d L.posts).length c2]) ∧
      w'.ownsRow w.heap.size 47 4 (.slice A2 (upTo d L.posts).length c2) (upTo d L.posts).length (paids (upTo d L.posts)) ∧ Below w.heap.size w w' := by
  have hlen' := h.posts.len
  have HP := fun W (hW : Below w.heap.size w W) => Lib.hid (h.to hW).posts
  have HT : upTo d L.posts = upTo d (L.posts.take n') := by rw [List.take_of_length_le (by omega)]
  rw [HT]
  have ST := fun (k : Nat) (x : Paid) (hx : L.posts[k]? = some x) => Lib.hid (upTo_snoc (d := d) hx)
  have UL := fun (k : Nat) => upTo_len d L.posts k
  generalize L.start = s at *
  generalize L.posts = l at *
  obtain ⟨hB1, hz1, hc1⟩ := (boxed3 w (.int .i64 s) (.slice A n c) (.slice A' n' c') 38)
  have hb2 := (boxed3 (w.alloc (.cells #[.int .i64 s, .slice A n c, .slice A' n' c'] 38)) (.int .i64 0) (.slice none 0 0) (.slice none 0 0) 38).1
  have hx2 := Box3.new (w.alloc (.cells #[.int .i64 s, .slice A n c, .slice A' n' c'] 38)) (.int .i64 0) (.slice none 0 0) (.slice none 0 0) 38
  have e1 : (w.alloc (.cells #[.int .i64 s, .slice A n c, .slice A' n' c'] 38)).heap.size = w.heap.size + 1 := by simp
  have hc2 := held3 hb2 hz1 hc1
  have hB0 := after hB1 hb2
  have hz0 : ((w.alloc (.cells #[.int .i64 s, .slice A n c, .slice A' n' c'] 38)).alloc (.cells #[.int .i64 0, .slice none 0 0, .slice none 0 0] 38)).heap.size = w.heap.size + 2 := by simp
  rw [e1] at hx2
  clear HT h hlen' hc1 hB1 hb2 hz1 e1
  go_enter Try.func28, Try.ntmps28
  go_wp2
  generalize World.alloc (World.alloc w _) _ = W0 at *
  have F := fun W (hW : Below W0.heap.size W0 W) => Lib.hid (held3 hW (by omega) hc2)
  have X := fun W (hW : Below W0.heap.size W0 W) => Lib.hid (hx2.kept hW (by omega))
  clear hc2 hx2
  go_loopw [5, 6] (fun v i wr => ∃ k : Nat, k ≤ n' ∧ i = .int .i64 k ∧ Below W0.heap.size W0 wr ∧ wr.ownsRow W0.heap.size 47 4 v (upTo d (l.take k)).length (paids (upTo d (l.take k)))) (fun _ i _ => n' - (intOf i).toNat)
  case atStart => exact ⟨0, Nat.zero_le _, rfl, Below.refl _ _, World.ownsRow_nil _ _ _ _⟩
  case round =>
    obtain ⟨k, hk, rfl, hb, hown⟩ := hrel
    obtain ⟨f0, f1, f2⟩ := (F _ hb).out
    have fz : w.heap.size < wr.heap.size := by have := hb.size; omega
    by_cases hlt : k < n'
    · obtain ⟨x, b, o, hx, rfl, hbB, x0, x1, x2, x3⟩ := (HP _ (after hB0 hb)).out.at_ hlt
      have hst := ST k x hx
      have hul := UL k
      generalize (upTo d (l.take k)) = u at *
      have Hb := Lib.hid hb
      clear hx F X HP ST UL hb
      by_cases hd : x.day ≤ d
      · have hst' : upTo d (l.take (k + 1)) = u ++ [x] := by rw [hst.out, if_pos hd]
        have HST := Lib.hid hst'
        have hsz := Hb.out.size
        clear hst hst'
        go_wp2_with (at_builtin; go_must (refine elemPaid.list_append rfl (.tmp 22) (.tmp 28) rfl rfl (hown.alloc _) rfl (reads_block (b := wr.heap.size) (n := 1) (B := wr.heap.size + 1) (xs := paids [x]) (by omega) (heap_at rfl) rfl rfl) (paids_one _) (by unfold maxLen; omega) (by omega) (by simp; omega) ?_; intro v' w' hown' hg hat; have hW' := Below.grown (by have := Hb.out; go_grown : Below W0.heap.size W0 (wr.alloc _)) hg (by simp; omega) (fun g hgg => (hown.lt g hgg).1)))
        go_roundw
        case rel => exact ⟨k + 1, by omega, by go_num, hW', by rw [HST.out, paids_append, List.length_append]; exact hown'⟩
        case measure => simp [intOf]; omega
      · have hst' : upTo d (l.take (k + 1)) = u := by rw [hst.out, if_neg hd, List.append_nil]
        have HST := Lib.hid hst'
        clear hst hst'
        go_wp2
        go_roundw
        case rel => exact ⟨k + 1, by omega, by go_num, Hb.out, by rw [HST.out]; exact hown⟩
        case measure => simp [intOf]; omega
    · have hkn : k = n' := by omega
      subst hkn
      obtain ⟨⟨y0, y1, y2⟩, g0, g1, g2⟩ := (X _ hb).out
      obtain ⟨A2, c2, rfl, _⟩ := own_shape hown
      have HO := Lib.hid hown
      have Hb := Lib.hid hb
      clear F X HP ST UL hown hb
      have hz3 : w.heap.size + 1 < wr.heap.size := by have := Hb.out.size; omega
      go_wp2
      refine bodyPost_ret (v := .agg #[.int .i64 s, .slice A n c, .slice A2 (upTo d (l.take k)).length c2]) (by simp [results, Try.results28, go_sem, y0, y1, y2]) rfl ⟨A2, c2, rfl, ?_, ?_⟩
      · exact own_more (ownsRow_setCell_below (ownsRow_setCell_below (ownsRow_setCell_below HO.out (by dsimp only; omega) _) (by dsimp only; omega) _) (by dsimp only; omega) _) (by omega)
      · have := after hB0 Hb.out
        go_grown
end Go.Proofs.Ytmaojcjnpblffaa
