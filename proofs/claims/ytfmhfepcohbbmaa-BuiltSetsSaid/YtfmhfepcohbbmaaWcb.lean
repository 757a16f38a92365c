/- Numbers there and back. -/
import Derived.Test.YtfmhfepcohbbmaaWc
namespace Go.Proofs.Ytfmhfepcohbbmaa.EvA
set_option linter.unusedVariables false
/-! There and back. -/
theorem numL_app : ∀ (l : List UInt8) (a : Nat) (r : List UInt8), numL (l ++ r) a = (numL l a).bind fun n => numL r n
  | [], a, r => rfl
  | b :: l, a, r => by
    simp only [List.cons_append, numL]
    split
    · rfl
    · split
      · rfl
      · exact numL_app l _ r
theorem digit_nat {d : Nat} (h : d < 10) : (UInt8.ofNat (48 + d)).toNat = 48 + d := by
  rw [UInt8.toNat_ofNat']
  omega
theorem numL_digs : ∀ (m : Nat), m ≤ 4611686018427387904 → numL (digs m) 0 = some m := by
  intro m
  induction m using Nat.strongRecOn with
  | _ m ih =>
    intro hm
    by_cases h : 9 < m
    · rw [digs_big h, numL_app, ih (m / 10) (by omega) (by omega)]
      show numL [_] (m / 10) = _
      simp only [numL]
      rw [digit_nat (by omega), if_neg (by omega), if_neg (by omega)]
      congr 1; omega
    · rw [digs_small h]
      simp only [numL]
      rw [digit_nat (by omega), if_neg (by omega), if_neg (by omega)]
      congr 1; omega
theorem digs_head : ∀ (m : Nat), ∃ d r, digs m = UInt8.ofNat (48 + d) :: r ∧ d < 10 := by
  intro m
  induction m using Nat.strongRecOn with
  | _ m ih =>
    by_cases h : 9 < m
    · obtain ⟨d, r, h1, h2⟩ := ih (m / 10) (by omega)
      rw [digs_big h, h1]
      exact ⟨d, _, rfl, h2⟩
    · rw [digs_small h]
      exact ⟨m, [], rfl, by omega⟩
theorem numM_digs {m : Nat} (hm : m ≤ 4611686018427387904) : numM (mkT (digs m)) = (m, true) := by
  obtain ⟨d, r, h1, _⟩ := digs_head m
  have h0 : ¬ (mkT (digs m)).size = 0 := by rw [mkT_size, h1]; simp
  unfold numM
  rw [if_neg h0]
  show (match numL (digs m) 0 with | some n => (n, true) | none => (0, false)) = _
  rw [numL_digs m hm]
theorem digs_len : ∀ (m : Nat), (digs m).length ≤ m + 1 := by
  intro m
  induction m using Nat.strongRecOn with
  | _ m ih =>
    by_cases h : 9 < m
    · have := ih (m / 10) (by omega)
      rw [digs_big h, List.length_append]
      simp only [List.length_cons, List.length_nil]; omega
    · rw [digs_small h]; simp
theorem digs_short : ∀ (k m : Nat), m < 10 ^ (k + 1) → (digs m).length ≤ k + 1
  | 0, m, h => by rw [digs_small (by omega)]; simp
  | k + 1, m, h => by
    by_cases h1 : 9 < m
    · have := digs_short k (m / 10) (by rw [Nat.pow_succ] at h; omega)
      rw [digs_big h1, List.length_append]
      simp only [List.length_cons, List.length_nil]; omega
    · rw [digs_small h1]; simp
theorem digits_short {n : Int} (hn : n.natAbs ≤ 4611686018427387904) : (mkT (digitsL n)).size ≤ 1000000000 := by
  have := digs_short 19 n.natAbs (by omega)
  rw [mkT_size]
  unfold digitsL
  split
  · rw [List.length_cons]; omega
  · omega
end Go.Proofs.Ytfmhfepcohbbmaa.EvA
