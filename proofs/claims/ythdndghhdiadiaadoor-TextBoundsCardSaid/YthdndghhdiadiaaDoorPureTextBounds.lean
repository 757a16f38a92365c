/- Numbers go up to the bound, and no further; no sign is a number's: the plain statement. -/
import Derived.Test.YthdndghhdiadiaaDoorPAllx2
import Derived.Test.YthdndghhdiadiaaDoorTextC
namespace Go.Proofs.YthdndghhdiadiaaDoor.Pure
open Go.RowKit Go.Proofs.YthdndghhdiadiaaDoor.PAll Go.Proofs.YthdndghhdiadiaaDoorW.PrintWords Go.Proofs.YthdndghhdiadiaaDoorW.PrintLast Go.Proofs.YthdndghhdiadiaaDoor.B Go.Proofs.YthdndghhdiadiaaDoor.TextL Go.Proofs.YthdndghhdiadiaaDoor.TextC
set_option linter.unusedVariables false
set_option linter.unusedSimpArgs false
theorem TextBounds : conchlaw1_TextBounds.Pure := by
  intro a0 w0
  apply ev_ex
  unfold conchlaw1_TextBounds.f
  rw [bits_and15]
  generalize hm : a0 % 16 - 8 = m
  have hm2 : -8 ≤ m ∧ m ≤ 7 := by omega
  rw [w64 (n := m) (by omega) (by omega), w64 (n := 4611686018427387896 + m) (by omega) (by omega), w64 (n := 4611686018427387896 + m + 8) (by omega) (by omega),
    w64 (n := 4611686018427387904 + m) (by omega) (by omega), digits_some _ (by omega) (by omega)]
  have hl : (Lib.itoa (4611686018427387896 + m + 8)).length ≤ 1000000 := by
    have e : (4611686018427387896 + m + 8).toNat < 10 ^ 20 := by omega
    unfold Lib.itoa; rw [if_neg (by omega), Lib.decDigits_length]
    have : ∀ (k u : Nat), u < 10 ^ (k + 1) → Lib.nDigits u ≤ k + 1 := by
      intro k; induction k with
      | zero => intro u h; rw [Lib.nDigits_small (by simpa using h)]; omega
      | succ k ih =>
        intro u h
        by_cases h2 : u < 10
        · rw [Lib.nDigits_small h2]; omega
        · rw [Lib.nDigits_big h2]
          have := ih (u / 10) (by rw [Nat.pow_succ] at h; omega)
          omega
    have := this 19 _ e
    omega
  have h1 := number_some (mkB (Lib.itoa (4611686018427387896 + m + 8))) (by rw [L_mkB]; exact hl)
  rw [L_mkB, numOf_itoa] at h1
  have h2 := number_some (⟨#[45, 49]⟩ : ByteArray) (by decide)
  rw [show numOf (L (⟨#[45, 49]⟩ : ByteArray)) = (0, false) by decide] at h2
  have h3 := number_some (⟨#[43, 49]⟩ : ByteArray) (by decide)
  rw [show numOf (L (⟨#[43, 49]⟩ : ByteArray)) = (0, false) by decide] at h3
  have h4 := number_some (⟨#[]⟩ : ByteArray) (by decide)
  rw [show numOf (L (⟨#[]⟩ : ByteArray)) = (0, false) by decide] at h4
  refine ev_some (Ev.bind h1 (Ev.bind h2 (Ev.bind h3 (Ev.bind h4 ?_))))
  by_cases hle : m ≤ 0
  · rw [if_pos (by omega)]
    refine ev_pos (by simpa using hle) (ev_pos rfl (ev_pos (by simp only; omega) (ev_neg (by decide) (ev_neg (by decide) (ev_neg (by decide) (Ev.bind awake_some (ev_now rfl)))))))
  · rw [if_neg (by omega)]
    refine ev_pos (by simp; omega) (ev_neg (by decide) (ev_neg (by decide) (ev_neg (by decide) (ev_neg (by decide) (Ev.bind awake_some (ev_now rfl))))))
end Go.Proofs.YthdndghhdiadiaaDoor.Pure
