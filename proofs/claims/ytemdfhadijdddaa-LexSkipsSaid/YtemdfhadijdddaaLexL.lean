/- Bytes of scripts: what blanks, operators and reserved words are, on rows of bytes. No program in sight. -/
import Derived.Test.YtemdfhadijdddaaB
namespace Go.Proofs.Ytemdfhadijdddaa.LexL
set_option linter.unusedVariables false
set_option linter.unusedSimpArgs false

/-- Behind blanks, joined lines and a comment: how many bytes are passed. -/
def skipL : List UInt8 → Nat
  | [] => 0
  | [c] => if c = 32 ∨ c = 9 then 1 else if c = 35 then 1 else 0
  | c :: d :: l => if c = 32 ∨ c = 9 then 1 + skipL (d :: l) else if c = 92 ∧ d = 10 then 2 + skipL l else if c = 35 then ((c :: d :: l).takeWhile (fun x => !(x == 10))).length else 0
theorem skip_blank (c : UInt8) (l : List UInt8) (h : c = 32 ∨ c = 9) : skipL (c :: l) = 1 + skipL l := by
  cases l with
  | nil => simp [skipL, h]
  | cons d l => simp [skipL, h]
theorem skip_joined (l : List UInt8) : skipL (92 :: 10 :: l) = 2 + skipL l := by simp [skipL]
theorem skip_comment (l : List UInt8) : skipL (35 :: l) = ((35 :: l).takeWhile (fun x => !(x == 10))).length := by
  cases l with
  | nil => simp [skipL]
  | cons d l => simp [skipL]
theorem skip_other (c : UInt8) (l : List UInt8) (h1 : ¬ (c = 32 ∨ c = 9)) (h2 : ¬ c = 35) (h3 : ¬ (c = 92 ∧ ∃ m, l = 10 :: m)) : skipL (c :: l) = 0 := by
  cases l with
  | nil => simp [skipL, h1, h2]
  | cons d l =>
    have : ¬ (c = 92 ∧ d = 10) := fun ⟨a, b⟩ => h3 ⟨a, l, by rw [b]⟩
    simp [skipL, h1, h2, this]
theorem skip_le : ∀ (n : Nat) (l : List UInt8), l.length ≤ n → skipL l ≤ l.length := by
  intro n; induction n with
  | zero => intro l h; have : l = [] := List.length_eq_zero_iff.mp (by omega); subst this; simp [skipL]
  | succ n ih =>
    intro l h
    cases l with
    | nil => simp [skipL]
    | cons c l =>
      by_cases h1 : c = 32 ∨ c = 9
      · rw [skip_blank c l h1]; have := ih l (by simp at h; omega); simp; omega
      · by_cases h2 : c = 35
        · subst h2; rw [skip_comment]; exact (List.takeWhile_sublist _).length_le
        · by_cases h3 : c = 92 ∧ ∃ m, l = 10 :: m
          · obtain ⟨rfl, m, rfl⟩ := h3
            rw [skip_joined]; have := ih m (by simp at h; omega); simp; omega
          · rw [skip_other c l h1 h2 h3]; simp

def doubles : List (List UInt8) := [[59, 59], [38, 38], [124, 124], [62, 62], [60, 60], [60, 38], [62, 38], [60, 62], [62, 124]]
def singles : List UInt8 := [59, 124, 38, 40, 41, 60, 62, 10]
def opsL : List (List UInt8) := [[59, 59], [38, 38], [124, 124], [62, 62], [60, 60], [60, 38], [62, 38], [60, 62], [62, 124], [59], [124], [38], [40], [41], [60], [62], [10]]
/-- The operator that a row begins with. -/
def opS (r : List UInt8) : Option (List UInt8) := opsL.find? (fun o => r.take o.length == o)
theorem find_same {α : Type} [BEq α] [LawfulBEq α] (v : α) : ∀ xs : List α, xs.find? (fun o => v == o) = if xs.contains v then some v else none
  | [] => rfl
  | x :: xs => by
    rw [List.find?_cons, find_same v xs, List.contains_cons]
    by_cases h : v = x
    · subst h; simp
    · have : (v == x) = false := by simpa using h
      simp [this]
theorem opsL_is : opsL = doubles ++ singles.map (fun c => [c]) := rfl
theorem opS_is (r : List UInt8) : opS r = (if doubles.contains (r.take 2) then some (r.take 2) else none).or (if (singles.map fun c => [c]).contains (r.take 1) then some (r.take 1) else none) := by
  rw [opS, opsL_is, List.find?_append]
  rw [Lib.find_congr (p := fun o => r.take o.length == o) (q := fun o => r.take 2 == o) (l := doubles) (fun o ho => by
    have : o.length = 2 := by revert o; decide
    simp only [this])]
  rw [Lib.find_congr (p := fun o => r.take o.length == o) (q := fun o => r.take 1 == o) (l := singles.map fun c => [c]) (fun o ho => by
    have : o.length = 1 := by
      obtain ⟨c, _, rfl⟩ := List.mem_map.mp ho; rfl
    simp only [this])]
  rw [find_same, find_same]
theorem single_mem (c : UInt8) : (singles.map fun c => [c]).contains [c] = singles.contains c := by
  rw [Bool.eq_iff_iff]; simp [singles]
theorem double_len {r : List UInt8} (h : doubles.contains r = true) : r.length = 2 := by
  have key : ∀ o ∈ doubles, o.length = 2 := by decide
  exact key r (by simpa using h)
theorem opS_one (c : UInt8) : opS [c] = if singles.contains c then some [c] else none := by
  rw [opS_is]
  have : doubles.contains ([c].take 2) = false := by
    rw [Bool.eq_false_iff]; intro h; have := double_len h; simp at this
  rw [this]; simp only [List.take_succ_cons, List.take_nil, List.take_zero, single_mem]; simp
theorem opS_two (c d : UInt8) (l : List UInt8) : opS (c :: d :: l) = if doubles.contains [c, d] then some [c, d] else if singles.contains c then some [c] else none := by
  rw [opS_is, show (c :: d :: l).take 2 = [c, d] from rfl, show (c :: d :: l).take 1 = [c] from rfl, single_mem]
  by_cases h : doubles.contains [c, d] = true
  · rw [if_pos h, if_pos h]; rfl
  · rw [if_neg h, if_neg h, Option.none_or]
theorem opS_nil : opS [] = none := by decide
end Go.Proofs.Ytemdfhadijdddaa.LexL
