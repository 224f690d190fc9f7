/- Stores and logs of a journal as plain data. No program. -/
import Derived.Test.YtbkicepkkcambaaJouV
namespace Go.Proofs.Ytbkicepkkcambaa
set_option linter.unusedVariables false
set_option linter.unusedSimpArgs false

structure Sto where
  data : Bytes
  power : Int
structure Lg where
  data : Bytes
  power : Int
  count : Int
  down : Bool
def Sto.zero : Sto := ⟨[], 0⟩
def Lg.zero : Lg := ⟨[], 0, 0, false⟩
def Lg.sto (l : Lg) : Sto := ⟨l.data, l.power⟩
def stoOk (s : Sto) : Bool := decide (s.data.length ≤ 1048576 ∧ -1 ≤ s.power)
/-- How many of n bytes can be written. -/
def canW (power : Int) (n : Nat) : Nat := if 0 ≤ power then min n power.toNat else n
def wrote (s : Sto) (d : Bytes) : Sto := ⟨s.data ++ d.take (canW s.power d.length), if 0 ≤ s.power then s.power - canW s.power d.length else s.power⟩
def wroteE (s : Sto) (d : Bytes) : Int := if canW s.power d.length < d.length then 370 else 0
def writeR (s : Sto) (d : Bytes) : Sto × Int := if stoOk s = false then (Sto.zero, 2) else if 1048576 < s.data.length + d.length then (Sto.zero, 4) else (wrote s d, wroteE s d)
def cutR (s : Sto) (n : Int) : Sto × Int :=
  if stoOk s = false ∨ n < 0 ∨ (s.data.length : Int) < n then (Sto.zero, 2)
  else if n < s.data.length ∧ s.power = 0 then (Sto.zero, 370)
  else (⟨s.data.take n.toNat, if n < s.data.length ∧ 0 < s.power then s.power - 1 else s.power⟩, 0)
def endOf (d : Bytes) : Nat := sizes (scan d)
def openR (s : Sto) : Lg × List Bytes × Int :=
  if (cutR s (endOf s.data)).2 ≠ 0 then (Lg.zero, [], (cutR s (endOf s.data)).2)
  else (⟨(cutR s (endOf s.data)).1.data, (cutR s (endOf s.data)).1.power, (scan s.data).length, false⟩, scan s.data, 0)
def rightB (l : Lg) : Bool := stoOk l.sto && decide (((scan l.data).length : Int) = l.count) && (l.down || decide (endOf l.data = l.data.length))
def addR (l : Lg) (p : Bytes) : Lg × Int :=
  if rightB l = false ∨ 4096 < p.length then (Lg.zero, 2)
  else if l.down = true then (Lg.zero, 371)
  else if l.count = 65536 ∨ 1048576 < l.data.length + p.length + 10 then (Lg.zero, 4)
  else if wroteE l.sto (formed (l.count.toNat + 1) p) ≠ 0 then (⟨(wrote l.sto (formed (l.count.toNat + 1) p)).data, (wrote l.sto (formed (l.count.toNat + 1) p)).power, l.count, true⟩, wroteE l.sto (formed (l.count.toNat + 1) p))
  else (⟨(wrote l.sto (formed (l.count.toNat + 1) p)).data, (wrote l.sto (formed (l.count.toNat + 1) p)).power, l.count + 1, l.down⟩, 0)
def restoreR (l : Lg) (power : Int) : Sto × Int := if rightB l = false ∨ power < -1 then (Sto.zero, 2) else (⟨l.data, power⟩, 0)

theorem canW_le (p : Int) (n : Nat) : canW p n ≤ n := by unfold canW; split <;> omega
theorem wrote_ok {s : Sto} {d : Bytes} (h : wroteE s d = 0) : wrote s d = ⟨s.data ++ d, if 0 ≤ s.power then s.power - d.length else s.power⟩ ∧ (s.power < 0 ∨ (d.length : Int) ≤ s.power) := by
  have hc := canW_le s.power d.length
  unfold wroteE at h
  have : canW s.power d.length = d.length := by
    by_cases h2 : canW s.power d.length < d.length
    · rw [if_pos h2] at h; omega
    · omega
  unfold wrote
  rw [this, List.take_length]
  refine ⟨rfl, ?_⟩
  unfold canW at this
  split at this <;> omega
theorem wrote_part {s : Sto} {d : Bytes} (h : wroteE s d ≠ 0) : wroteE s d = 370 ∧ ∃ m, m < d.length ∧ 0 ≤ s.power ∧ s.power = m ∧ wrote s d = ⟨s.data ++ d.take m, 0⟩ := by
  unfold wroteE at *
  by_cases h2 : canW s.power d.length < d.length
  · rw [if_pos h2]
    refine ⟨rfl, canW s.power d.length, h2, ?_⟩
    have : canW s.power d.length = if 0 ≤ s.power then min d.length s.power.toNat else d.length := rfl
    split at this
    · rename_i h0
      have hm : canW s.power d.length = s.power.toNat := by omega
      refine ⟨h0, by omega, ?_⟩
      unfold wrote
      rw [if_pos h0, hm]
      congr 1
      omega
    · omega
  · rw [if_neg h2] at h; exact absurd rfl h
/-- JournalWrites: two parts are the whole. -/
theorem wrote_two (s : Sto) (a b : Bytes) : wroteE s (a ++ b) = (if wroteE s a ≠ 0 then wroteE s a else wroteE (wrote s a) b) ∧ wrote s (a ++ b) = (if wroteE s a ≠ 0 then wrote s a else wrote (wrote s a) b) := by
  by_cases ha : wroteE s a = 0
  · obtain ⟨h1, h2⟩ := wrote_ok ha
    rw [if_neg (by simp [ha]), if_neg (by simp [ha]), h1]
    have hc : canW s.power (a ++ b).length = a.length + canW (if 0 ≤ s.power then s.power - a.length else s.power) b.length := by
      unfold canW
      rw [List.length_append]
      by_cases h0 : 0 ≤ s.power
      · rw [if_pos h0, if_pos h0, if_pos (by omega)]; omega
      · rw [if_neg h0, if_neg h0, if_neg (by omega)]
    refine ⟨?_, ?_⟩
    · unfold wroteE
      rw [hc, List.length_append]
      dsimp only
      by_cases h3 : canW (if 0 ≤ s.power then s.power - a.length else s.power) b.length < b.length
      · rw [if_pos (by omega), if_pos h3]
      · rw [if_neg (by omega), if_neg h3]
    · unfold wrote
      rw [hc]
      dsimp only
      rw [List.take_append, List.take_of_length_le (by omega), Nat.add_sub_cancel_left, List.append_assoc]
      congr 1
      by_cases h0 : 0 ≤ s.power
      · rw [if_pos h0, if_pos h0, if_pos (by omega)]; omega
      · rw [if_neg h0, if_neg h0, if_neg (by omega)]
  · obtain ⟨h1, m, h2, h3, h4, h5⟩ := wrote_part ha
    rw [if_pos ha, if_pos ha, h1, h5]
    have hc : canW s.power (a ++ b).length = m := by unfold canW; rw [if_pos h3, List.length_append]; omega
    refine ⟨?_, ?_⟩
    · unfold wroteE
      rw [hc, List.length_append, if_pos (by omega)]
    · unfold wrote
      rw [hc, if_pos h3, List.take_append_of_le_length (by omega)]
      congr 1
      omega

/-- A log with the records K, and a part of one that was not written whole. -/
structure Holds (l : Lg) (K : List Bytes) : Prop where
  small : ∀ p ∈ K, p.length ≤ 4096
  many : K.length ≤ 65000
  size : l.data.length ≤ 1048576
  pow : -1 ≤ l.power
  count : l.count = K.length
  data : ∃ q m, q.length ≤ 4096 ∧ m < q.length + 10 ∧ l.data = bytesOf 1 K ++ (formed (K.length + 1) q).take m ∧ (l.down = false → m = 0)
theorem Holds.scan {l : Lg} {K : List Bytes} (h : Holds l K) : scan l.data = K := by
  obtain ⟨q, m, h1, h2, h3, _⟩ := h.data
  have hm := h.many
  rw [scan_eq, h3, scanAt_bytes K 1 _ h.small (by omega), scanAt_none (nextR_part h1 h2 _), List.append_nil]
theorem Holds.end_ {l : Lg} {K : List Bytes} (h : Holds l K) : endOf l.data = sizes K := by unfold endOf; rw [h.scan]
theorem Holds.right {l : Lg} {K : List Bytes} (h : Holds l K) : rightB l = true := by
  have he := h.end_
  unfold rightB stoOk Lg.sto
  rw [h.scan, h.count, decide_eq_true ⟨h.size, h.pow⟩, decide_eq_true rfl, he]
  cases hd : l.down
  · obtain ⟨q, m, h1, h2, h3, h4⟩ := h.data
    have : l.data.length = sizes K := by rw [h3, h4 hd]; simp [bytesOf_length]
    simp [this]
  · rfl
/-- Restored and opened again. -/
theorem Holds.opened {l : Lg} {K : List Bytes} (h : Holds l K) {power : Int} (hp : -1 ≤ power) :
    restoreR l power = (⟨l.data, power⟩, 0) ∧ ((∃ m, openR ⟨l.data, power⟩ = (m, K, 0) ∧ Holds m K ∧ m.down = false ∧ m.count = K.length) ∨ (openR ⟨l.data, power⟩ = (Lg.zero, [], 370) ∧ power = 0 ∧ l.down = true)) := by
  refine ⟨by unfold restoreR; rw [if_neg (by rw [h.right]; simp; omega)], ?_⟩
  have hs := h.scan
  have he := h.end_
  have hsz := h.size
  obtain ⟨q, m, h1, h2, h3, h4⟩ := h.data
  have hlen : l.data.length = sizes K + m := by rw [h3, List.length_append, bytesOf_length, List.length_take, formed_length]; omega
  have hok : stoOk ⟨l.data, power⟩ = true := decide_eq_true ⟨hsz, hp⟩
  have hcut : cutR ⟨l.data, power⟩ (endOf l.data) = if 0 < m ∧ power = 0 then (Sto.zero, 370) else (⟨bytesOf 1 K, if 0 < m ∧ 0 < power then power - 1 else power⟩, 0) := by
    unfold cutR
    rw [hok, he]
    dsimp only
    rw [if_neg (by simp; omega)]
    have e1 : ((sizes K : Int) < l.data.length ∧ power = 0) ↔ (0 < m ∧ power = 0) := by omega
    have e2 : ((sizes K : Int) < l.data.length ∧ 0 < power) ↔ (0 < m ∧ 0 < power) := by omega
    have e3 : l.data.take (sizes K) = bytesOf 1 K := by rw [h3, List.take_left' (bytesOf_length K 1)]
    simp only [e1, e2, Int.toNat_natCast, e3]
  by_cases hz : 0 < m ∧ power = 0
  · right
    rw [if_pos hz] at hcut
    refine ⟨?_, hz.2, ?_⟩
    · unfold openR
      dsimp only
      rw [hcut, if_pos (by simp)]
    · cases hd : l.down
      · have := h4 hd; omega
      · rfl
  · left
    rw [if_neg hz] at hcut
    refine ⟨⟨bytesOf 1 K, if 0 < m ∧ 0 < power then power - 1 else power, K.length, false⟩, ?_, ⟨h.small, h.many, by dsimp only; rw [bytesOf_length]; omega, ?_, rfl, ⟨q, 0, h1, by omega, by simp, fun _ => rfl⟩⟩, rfl, rfl⟩
    · unfold openR
      dsimp only
      rw [hcut, if_neg (by simp), hs]
    · dsimp only
      split <;> omega
/-- A payload is added to a log that is not down. -/
theorem Holds.added {l : Lg} {K : List Bytes} (h : Holds l K) (hd : l.down = false) {p : Bytes} (hp : p.length ≤ 4096) (hn : K.length + 1 ≤ 65000) (hsz : sizes K + p.length + 10 ≤ 1048576) :
    (∃ n, addR l p = (n, 0) ∧ Holds n (K ++ [p]) ∧ n.down = false) ∨ (∃ n, addR l p = (n, 370) ∧ Holds n K ∧ n.down = true) := by
  have hc := h.count
  have hpw := h.pow
  obtain ⟨q, m, h1, h2, h3, h4⟩ := h.data
  have hm0 := h4 hd
  rw [hm0, List.take_zero, List.append_nil] at h3
  have hlen : l.data.length = sizes K := by rw [h3, bytesOf_length]
  have hct : l.count.toNat = K.length := by omega
  have hfl := formed_length (K.length + 1) p
  have hadd : addR l p = if wroteE l.sto (formed (K.length + 1) p) ≠ 0 then (⟨(wrote l.sto (formed (K.length + 1) p)).data, (wrote l.sto (formed (K.length + 1) p)).power, l.count, true⟩, wroteE l.sto (formed (K.length + 1) p)) else (⟨(wrote l.sto (formed (K.length + 1) p)).data, (wrote l.sto (formed (K.length + 1) p)).power, l.count + 1, l.down⟩, 0) := by
    unfold addR
    rw [hct, if_neg (by rw [h.right]; simp; omega), if_neg (by simp [hd]), if_neg (by omega)]
  by_cases hw : wroteE l.sto (formed (K.length + 1) p) = 0
  · left
    obtain ⟨h5, h6⟩ := wrote_ok hw
    rw [if_neg (by simp [hw]), h5] at hadd
    have hsp : l.sto.power = l.power := rfl
    rw [hsp] at h6 hadd
    have hkk : bytesOf 1 (K ++ [p]) = bytesOf 1 K ++ formed (K.length + 1) p := by
      rw [bytesOf_append]
      simp only [bytesOf, List.append_nil]
      rw [Nat.add_comm]
    refine ⟨_, hadd, ⟨?_, by simp; omega, ?_, ?_, ?_, ⟨[], 0, by simp, by simp, ?_, fun _ => rfl⟩⟩, hd⟩
    · intro x hx
      rcases List.mem_append.1 hx with hx | hx
      · exact h.small x hx
      · rw [List.mem_singleton.1 hx]; exact hp
    · show (l.data ++ formed (K.length + 1) p).length ≤ _
      rw [List.length_append]; omega
    · show -1 ≤ if 0 ≤ l.power then l.power - (formed (K.length + 1) p).length else l.power
      split <;> omega
    · show l.count + 1 = _
      rw [hc]; simp
    · show l.data ++ formed (K.length + 1) p = _
      rw [hkk, h3]; simp
  · right
    obtain ⟨h5, m2, h6, h7, h8, h9⟩ := wrote_part hw
    rw [if_pos hw, h5, h9] at hadd
    refine ⟨_, hadd, ⟨h.small, h.many, ?_, by simp, hc, ⟨p, m2, hp, by omega, ?_, fun e => by cases e⟩⟩, rfl⟩
    · show (l.data ++ (formed (K.length + 1) p).take m2).length ≤ _
      rw [List.length_append, List.length_take]; omega
    · show l.data ++ (formed (K.length + 1) p).take m2 = _
      rw [h3]
theorem holds_zero : Holds Lg.zero [] := ⟨by simp, by simp, by simp [Lg.zero], by simp [Lg.zero], rfl, ⟨[], 0, by simp, by simp, by simp [Lg.zero, bytesOf], fun _ => rfl⟩⟩
end Go.Proofs.Ytbkicepkkcambaa
