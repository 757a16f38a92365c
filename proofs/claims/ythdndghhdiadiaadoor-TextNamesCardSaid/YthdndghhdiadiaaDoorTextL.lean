/- The plain laws of bytes and numbers (layer 1), in lists: names, numbers, lines. -/
import Derived.Test.YthdndghhdiadiaaDoorB
import Derived.Lib.ItoaNum
import Derived.Lib.SplitLaws
namespace Go.Proofs.YthdndghhdiadiaaDoor.TextL
open Go.Proofs.YthdndghhdiadiaaDoor.B
set_option linter.unusedVariables false
set_option linter.unusedSimpArgs false

def letterB (c : UInt8) : Bool := (decide (97 ≤ c.toNat) && decide (c.toNat ≤ 122)) || (decide (65 ≤ c.toNat) && decide (c.toNat ≤ 90)) || c.toNat == 95
def digitB (c : UInt8) : Bool := decide (48 ≤ c.toNat) && decide (c.toNat ≤ 57)
def more (c : UInt8) : Bool := letterB c || digitB c
/-- How many bytes are a name. -/
def nameL : List UInt8 → Nat
  | [] => 0
  | c :: r => if letterB c then 1 + (r.takeWhile more).length else 0
def isName : List UInt8 → Bool
  | [] => false
  | c :: r => letterB c && r.all more

theorem tw_all {α : Type} (p : α → Bool) : ∀ (l : List α), (l.takeWhile p).length = l.length ↔ l.all p = true
  | [] => by simp
  | x :: l => by
    by_cases h : p x = true
    · have := tw_all p l
      simp only [List.takeWhile_cons, h, if_true, List.length_cons, List.all_cons, Bool.true_and]
      rw [← this]; omega
    · simp [List.takeWhile_cons, h]
theorem isName_iff (l : List UInt8) : isName l = true ↔ (l ≠ [] ∧ nameL l = l.length) := by
  cases l with
  | nil => simp [isName]
  | cons c r =>
    have := tw_all more r
    by_cases h : letterB c = true
    · simp only [isName, nameL, h, if_true, Bool.true_and, List.length_cons, ne_eq, reduceCtorEq, not_false_eq_true, true_and]
      rw [← this]; omega
    · simp [isName, nameL, h]
theorem isName_app (a b : List UInt8) (ha : isName a = true) (hb : b.all more = true) : isName (a ++ b) = true := by
  cases a with
  | nil => simp [isName] at ha
  | cons c r =>
    simp only [isName, Bool.and_eq_true] at ha
    simp only [List.cons_append, isName, List.all_append, ha.1, ha.2, hb, Bool.and_self]
theorem isName_more (a : List UInt8) (ha : isName a = true) : a.all more = true := by
  cases a with
  | nil => rfl
  | cons c r =>
    simp only [isName, Bool.and_eq_true] at ha
    simp only [List.all_cons, ha.2, Bool.and_true]
    simp [more, ha.1]
theorem nameL_stop (a b : List UInt8) (c : UInt8) (ha : isName a = true) (hc : more c = false) : nameL (a ++ c :: b) = a.length := by
  cases a with
  | nil => simp [isName] at ha
  | cons x r =>
    simp only [isName, Bool.and_eq_true] at ha
    have : (r ++ c :: b).takeWhile more = r := by
      have h : ∀ (r : List UInt8), r.all more = true → (r ++ c :: b).takeWhile more = r := by
        intro r; induction r with
        | nil => intro _; simp [List.takeWhile_cons, hc]
        | cons y r ih => intro h; simp only [List.all_cons, Bool.and_eq_true] at h; simp only [List.cons_append, List.takeWhile_cons, h.1, if_true, ih h.2]
      exact h r ha.2
    simp only [List.cons_append, nameL, ha.1, if_true, this, List.length_cons]; omega

/-! Numbers -/
def num : Int → List UInt8 → Int × Bool
  | n, [] => (n, true)
  | n, c :: r => if digitB c = false ∨ n > 461168601842738790 then (0, false) else if n * 10 + ((c.toNat : Int) - 48) > 4611686018427387904 then (0, false) else num (n * 10 + ((c.toNat : Int) - 48)) r
def numOf : List UInt8 → Int × Bool
  | [] => (0, false)
  | l => num 0 l
theorem num_app : ∀ (a b : List UInt8) (n : Int), num n (a ++ b) = if (num n a).2 = true then num (num n a).1 b else (0, false)
  | [], b, n => by simp [num]
  | c :: a, b, n => by
    simp only [List.cons_append, num]
    split
    · simp
    · split
      · simp
      · exact num_app a b _
theorem dec_ne (u : Nat) : Lib.decDigits u ≠ [] := by
  rw [Lib.decDigits]; split <;> simp
theorem digit_of (d : Nat) (h : d < 10) : digitB (UInt8.ofNat (48 + d)) = true ∧ ((UInt8.ofNat (48 + d)).toNat : Int) - 48 = d := by
  have e : (UInt8.ofNat (48 + d)).toNat = 48 + d := by rw [UInt8.toNat_ofNat']; omega
  constructor
  · simp only [digitB, e, Bool.and_eq_true, decide_eq_true_eq]; omega
  · rw [e]; omega
theorem num_dec : ∀ (u : Nat), num 0 (Lib.decDigits u) = if u ≤ 4611686018427387904 then ((u : Int), true) else (0, false) := by
  intro u
  induction u using Nat.strongRecOn with
  | ind u ih =>
    rw [Lib.decDigits]
    split
    · rename_i h
      obtain ⟨h1, h2⟩ := digit_of u h
      rw [num, h2, if_neg (by rw [h1]; simp), if_neg (by omega), num, if_pos (by omega)]; simp
    · rename_i h
      have hd := digit_of (u % 10) (by omega)
      rw [num_app, ih (u / 10) (by omega)]
      by_cases hs : u / 10 ≤ 4611686018427387904
      · rw [if_pos hs]
        simp only [if_true]
        rw [num, hd.1, hd.2, num]
        by_cases h3 : ((u / 10 : Nat) : Int) > 461168601842738790
        · rw [if_pos (Or.inr h3), if_neg (by omega)]
        · rw [if_neg (by simp; omega)]
          by_cases h4 : u ≤ 4611686018427387904
          · rw [if_neg (by omega), if_pos h4]; congr 1; omega
          · rw [if_pos (by omega), if_neg h4]
      · rw [if_neg hs, if_neg (by simp), if_neg (by omega)]
theorem numOf_itoa (n : Int) : numOf (Lib.itoa n) = if 0 ≤ n ∧ n ≤ 4611686018427387904 then (n, true) else (0, false) := by
  unfold Lib.itoa
  by_cases h : n < 0
  · rw [if_pos h, if_neg (by omega)]
    show num 0 (45 :: _) = _
    rw [num, if_pos (Or.inl (by decide))]
  · rw [if_neg h]
    have hn := dec_ne n.toNat
    have e : numOf (Lib.decDigits n.toNat) = num 0 (Lib.decDigits n.toNat) := by
      match hl : Lib.decDigits n.toNat, hn with
      | _ :: _, _ => rfl
    rw [e, num_dec]
    by_cases h2 : n ≤ 4611686018427387904
    · rw [if_pos (by omega), if_pos (by omega)]; congr 1; omega
    · rw [if_neg (by omega), if_neg (by omega)]
theorem num_00 (l : List UInt8) : num 0 (48 :: 48 :: l) = num 0 l := by
  rw [num, if_neg (by simp [digitB]), if_neg (by simp)]
  simp only [show (0 : Int) * 10 + (((48 : UInt8).toNat : Int) - 48) = 0 from rfl]
  rw [num, if_neg (by simp [digitB]), if_neg (by simp)]
  simp only [show (0 : Int) * 10 + (((48 : UInt8).toNat : Int) - 48) = 0 from rfl]

/-! Lines -/
def addHead (p : List UInt8) : List (List UInt8) → List (List UInt8)
  | [] => [p]
  | x :: xs => (p ++ x) :: xs
def cut : List UInt8 → List (List UInt8)
  | [] => [[]]
  | c :: r => if c = 10 then [] :: cut r else addHead [c] (cut r)
def trim : List UInt8 → List UInt8
  | [] => []
  | [c] => if c = 10 then [] else [c]
  | c :: d :: r => c :: trim (d :: r)
def lines (l : List UInt8) : List (List UInt8) := if l = [] then [] else cut (trim l)
def go (p : List UInt8) : List UInt8 → List (List UInt8)
  | [] => if p = [] then [] else [p]
  | c :: r => if c = 10 then p :: go [] r else go (p ++ [c]) r
theorem cut_ne (l : List UInt8) : cut l ≠ [] := by
  cases l with
  | nil => simp [cut]
  | cons c r =>
    rw [cut]; split
    · simp
    · cases cut r <;> simp [addHead]
theorem addHead_nil {x : List (List UInt8)} (h : x ≠ []) : addHead [] x = x := by
  cases x with
  | nil => exact absurd rfl h
  | cons a x => rfl
theorem addHead_add (p q : List UInt8) (x : List (List UInt8)) (h : x ≠ []) : addHead p (addHead q x) = addHead (p ++ q) x := by
  cases x with
  | nil => exact absurd rfl h
  | cons a x => simp [addHead]
theorem go_is : ∀ (l p : List UInt8), l ≠ [] → go p l = addHead p (cut (trim l))
  | [], p, h => absurd rfl h
  | [c], p, _ => by
    by_cases h : c = 10
    · subst h; simp [go, trim, cut, addHead]
    · simp [go, trim, cut, addHead, h]
  | c :: d :: r, p, _ => by
    rw [go, trim, cut]
    by_cases h : c = 10
    · rw [if_pos h, if_pos h, go_is (d :: r) [] (by simp), addHead_nil (cut_ne _)]; simp [addHead]
    · rw [if_neg h, if_neg h, go_is (d :: r) (p ++ [c]) (by simp), addHead_add _ _ _ (cut_ne _)]
theorem lines_go (l : List UInt8) : go [] l = lines l := by
  unfold lines
  by_cases h : l = []
  · subst h; simp [go]
  · rw [if_neg h, go_is l [] h, addHead_nil (cut_ne _)]
theorem trim_is : ∀ (l : List UInt8), l ≠ [] → trim l = if l.drop (l.length - 1) = [10] then l.take (l.length - 1) else l
  | [], h => absurd rfl h
  | [c], _ => by simp [trim]
  | c :: d :: r, _ => by
    rw [trim, trim_is (d :: r) (by simp)]
    simp only [List.length_cons, Nat.add_sub_cancel, show r.length + 1 + 1 - 1 = r.length + 1 from rfl, List.drop_succ_cons, List.take_succ_cons]
    split <;> rfl
/-- One line, and what is left. -/
theorem step_line : ∀ (l x : List UInt8) (xs : List (List UInt8)), l ≠ [] → cut (trim l) = x :: xs →
    (xs ≠ [] ∧ ∃ r, l = x ++ 10 :: r ∧ r ≠ [] ∧ cut (trim r) = xs) ∨ (xs = [] ∧ (l = x ∨ l = x ++ [10]))
  | [], x, xs, h, _ => absurd rfl h
  | [c], x, xs, _, h => by
    by_cases hc : c = 10
    · subst hc; simp [trim, cut] at h; obtain ⟨rfl, rfl⟩ := h; exact Or.inr ⟨rfl, Or.inr rfl⟩
    · simp [trim, hc, cut, addHead] at h; obtain ⟨rfl, rfl⟩ := h; exact Or.inr ⟨rfl, Or.inl rfl⟩
  | c :: d :: r, x, xs, _, h => by
    rw [trim, cut] at h
    by_cases hc : c = 10
    · rw [if_pos hc] at h
      obtain ⟨rfl, rfl⟩ := List.cons.inj h
      exact Or.inl ⟨cut_ne _, d :: r, by rw [hc]; rfl, by simp, rfl⟩
    · rw [if_neg hc] at h
      match hk : cut (trim (d :: r)), cut_ne (trim (d :: r)) with
      | y :: ys, _ =>
        rw [hk] at h
        obtain ⟨rfl, rfl⟩ := List.cons.inj h
        rcases step_line (d :: r) y ys (by simp) hk with ⟨h1, r', h2, h3, h4⟩ | ⟨h1, h2 | h2⟩
        · exact Or.inl ⟨h1, r', by rw [h2]; rfl, h3, h4⟩
        · exact Or.inr ⟨h1, Or.inl (by rw [h2]; rfl)⟩
        · exact Or.inr ⟨h1, Or.inr (by rw [h2]; rfl)⟩
theorem splitK_cut : ∀ (l : List UInt8), Lib.splitK [10] 0 (Lib.count l [10]) l = cut l
  | [] => rfl
  | c :: r => by
    have ih := splitK_cut r
    by_cases hc : c = 10
    · subst hc
      rw [Lib.count_cons_eq, Nat.add_comm, Lib.splitK]
      have hix : Lib.index (10 :: r) [10] = 0 := by rw [Lib.index]; simp [List.isPrefixOf]
      rw [hix]; simp only [List.length_singleton]
      rw [if_neg (by decide)]
      simp only [Int.toNat_zero, Nat.zero_add, List.take_zero, List.drop_succ_cons, List.drop_zero, ih, cut, if_true]
    · have hp : ([10] : List UInt8).isPrefixOf (c :: r) = false := by simp [List.isPrefixOf]; exact fun e => hc e.symm
      have hix : Lib.index (c :: r) [10] = if Lib.index r [10] == -1 then -1 else Lib.index r [10] + 1 := by rw [Lib.index, hp]; simp
      rw [Lib.count_cons_ne _ _ _ hc, cut, if_neg hc, ← ih]
      cases hk : Lib.count r [10] with
      | zero => simp [Lib.splitK, addHead]
      | succ k =>
        rw [Lib.splitK, Lib.splitK, hix]
        by_cases hm : Lib.index r [10] = -1
        · rw [hm]; simp [addHead]
        · have hge := Lib.index_ge r [10]
          have hm' : (Lib.index r [10] == -1) = false := by simpa using hm
          have hm2 : (Lib.index r [10] + 1 == -1) = false := by
            have : ¬ Lib.index r [10] + 1 = -1 := by omega
            simpa using this
          rw [hm']; simp only [Bool.false_eq_true, if_false, hm2, addHead, List.length_singleton, Nat.add_zero]
          rw [show (Lib.index r [10] + 1).toNat = (Lib.index r [10]).toNat + 1 by omega]
          simp [List.take_succ_cons, List.drop_succ_cons]
end Go.Proofs.YthdndghhdiadiaaDoor.TextL
