/- Lines and columns of a row of bytes, and how a place is found by them. No program in sight. -/
import Derived.Test.YtlebdbbngliiaaaB
namespace Go.Proofs.Ytlebdbbngliiaaa.PosL
set_option linter.unusedVariables false
set_option linter.unusedSimpArgs false

def no10 : UInt8 → Bool := fun x => !(x == 10)
/-- The line and the column behind a beginning. -/
def lineOf (p : List UInt8) : Nat := 1 + p.count 10
def colOf (p : List UInt8) : Nat := 1 + (p.reverse.takeWhile no10).length
theorem line_snoc (p : List UInt8) (c : UInt8) : lineOf (p ++ [c]) = if c = 10 then lineOf p + 1 else lineOf p := by
  unfold lineOf; rw [List.count_append]
  by_cases h : c = 10
  · subst h; simp; omega
  · simp [h]
theorem col_snoc (p : List UInt8) (c : UInt8) : colOf (p ++ [c]) = if c = 10 then 1 else colOf p + 1 := by
  unfold colOf; rw [List.reverse_append]
  by_cases h : c = 10
  · subst h; simp [no10]
  · have : no10 c = true := by simpa [no10] using h
    simp [List.takeWhile_cons, this, h]; omega
theorem line_nil : lineOf [] = 1 := rfl
theorem col_nil : colOf [] = 1 := rfl
theorem col_pos (p : List UInt8) : 1 ≤ colOf p := by unfold colOf; omega
theorem line_pos (p : List UInt8) : 1 ≤ lineOf p := by unfold lineOf; omega
theorem tw_app_stop (a b : List UInt8) (h : ∀ x ∈ a, ¬ x = 10) : (a ++ (10 : UInt8) :: b).takeWhile no10 = a := by
  induction a with
  | nil => simp [no10]
  | cons x a ih => rw [List.cons_append, List.takeWhile_cons, if_pos (by simpa [no10] using h x (by simp)), ih (fun y hy => h y (List.mem_cons_of_mem _ hy))]
theorem tw_all (a : List UInt8) (h : ∀ x ∈ a, ¬ x = 10) : a.takeWhile no10 = a := by
  induction a with
  | nil => rfl
  | cons x a ih => rw [List.takeWhile_cons, if_pos (by simpa [no10] using h x (by simp)), ih (fun y hy => h y (List.mem_cons_of_mem _ hy))]
theorem tw_no (a : List UInt8) : ∀ x ∈ a.takeWhile no10, ¬ x = 10 := by
  induction a with
  | nil => simp
  | cons c a ih =>
    intro x hx
    by_cases h : no10 c = true
    · rw [List.takeWhile_cons, if_pos h] at hx
      rcases List.mem_cons.mp hx with e | e
      · rw [e]; simpa [no10] using h
      · exact ih x e
    · rw [List.takeWhile_cons, if_neg h] at hx; simp at hx
theorem split10 {l : List UInt8} (h : (10 : UInt8) ∈ l) : ∃ b, l = l.takeWhile no10 ++ 10 :: b := by
  induction l with
  | nil => simp at h
  | cons c l ih =>
    by_cases hc : c = 10
    · subst hc; exact ⟨l, by simp [no10]⟩
    · rcases List.mem_cons.mp h with e | e
      · exact absurd e.symm hc
      · obtain ⟨b, hb⟩ := ih e
        refine ⟨b, ?_⟩
        rw [List.takeWhile_cons, if_pos (by simpa [no10] using hc), List.cons_append, ← hb]
theorem line_flat (p : List UInt8) (h : ∀ x ∈ p, ¬ x = 10) : lineOf p = 1 := by
  unfold lineOf; rw [List.count_eq_zero_of_not_mem (fun e => h 10 e rfl)]
theorem col_flat (p : List UInt8) (h : ∀ x ∈ p, ¬ x = 10) : colOf p = p.length + 1 := by
  unfold colOf; rw [tw_all _ (fun x hx => h x (by simpa using hx))]; simp; omega
theorem line_over (w m : List UInt8) (h : ∀ x ∈ w, ¬ x = 10) : lineOf (w ++ 10 :: m) = 1 + lineOf m := by
  unfold lineOf; rw [List.count_append, List.count_eq_zero_of_not_mem (fun e => h 10 e rfl)]; simp; omega
theorem col_over (w m : List UInt8) : colOf (w ++ 10 :: m) = colOf m := by
  unfold colOf
  have e : (w ++ (10 : UInt8) :: m).reverse = m.reverse ++ 10 :: w.reverse := by simp
  rw [e]
  by_cases hm : (10 : UInt8) ∈ m.reverse
  · obtain ⟨b, hb⟩ := split10 hm
    have hn := tw_no m.reverse
    generalize m.reverse.takeWhile no10 = t at *
    rw [hb, List.append_assoc, List.cons_append, tw_app_stop t _ hn]
  · have hn : ∀ x ∈ m.reverse, ¬ x = 10 := fun x hx e => hm (by rw [← e]; exact hx)
    rw [tw_app_stop _ _ hn, tw_all _ hn]
theorem line_one {p : List UInt8} (h : lineOf p = 1) : ∀ x ∈ p, ¬ x = 10 := by
  intro x hx e; subst e
  have : 0 < p.count 10 := List.count_pos_iff.mpr hx
  unfold lineOf at h; omega

/-- Where so many lines end. -/
def startL : Nat → List UInt8 → Option Nat
  | 0, _ => some 0
  | k + 1, l => if (10 : UInt8) ∈ l then (startL k (l.drop ((l.takeWhile no10).length + 1))).map ((l.takeWhile no10).length + 1 + ·) else none
/-- The place of a line and a column. -/
def find (l : List UInt8) (line col : Nat) : Option Nat :=
  match startL (line - 1) l with
  | some a => if col - 1 ≤ ((l.drop a).takeWhile no10).length then some (a + (col - 1)) else none
  | none => none
theorem start_le : ∀ (k : Nat) (l : List UInt8) (a : Nat), startL k l = some a → a ≤ l.length := by
  intro k; induction k with
  | zero => intro l a h; simp [startL] at h; omega
  | succ k ih =>
    intro l a h
    rw [startL] at h
    by_cases hm : (10 : UInt8) ∈ l
    · rw [if_pos hm] at h
      obtain ⟨b, hb, rfl⟩ := Option.map_eq_some_iff.mp h
      have := ih _ b hb
      obtain ⟨m, hm2⟩ := split10 hm
      have hl := congrArg List.length hm2
      simp at this hl; omega
    · rw [if_neg hm] at h; cases h
theorem find_iff_aux : ∀ (k : Nat) (l : List UInt8) (col n : Nat), 1 ≤ col → n ≤ l.length →
    ((lineOf (l.take n) = k + 1 ∧ colOf (l.take n) = col) ↔ find l (k + 1) col = some n) := by
  intro k; induction k with
  | zero =>
    intro l col n hc hn
    simp only [find, Nat.zero_add, Nat.sub_self, startL, List.drop_zero]
    constructor
    · rintro ⟨h1, h2⟩
      have h := line_one h1
      rw [col_flat _ h] at h2
      have hl : (l.take n).length = n := by simp; omega
      have : n ≤ (l.takeWhile no10).length := by
        have e : (l.take n ++ l.drop n).takeWhile no10 = l.take n ++ (l.drop n).takeWhile no10 := by
          have key : ∀ (a b : List UInt8), (∀ x ∈ a, ¬ x = 10) → (a ++ b).takeWhile no10 = a ++ b.takeWhile no10 := by
            intro a b ha; induction a with
            | nil => rfl
            | cons x a ih => rw [List.cons_append, List.takeWhile_cons, if_pos (by simpa [no10] using ha x (by simp)), ih (fun y hy => ha y (List.mem_cons_of_mem _ hy)), List.cons_append]
          exact key _ _ h
        rw [List.take_append_drop] at e; rw [e, List.length_append]; omega
      rw [if_pos (by omega)]; simp; omega
    · intro h
      by_cases hle : col - 1 ≤ (l.takeWhile no10).length
      · rw [if_pos hle] at h
        have : n = col - 1 := by simp at h; omega
        subst this
        have h2 : ∀ x ∈ l.take (col - 1), ¬ x = 10 := by
          intro x hx
          apply tw_no l x
          have e : l.take (col - 1) = (l.takeWhile no10).take (col - 1) := by
            conv => lhs; rw [← List.takeWhile_append_dropWhile (p := no10) (l := l)]
            rw [List.take_append_of_le_length hle]
          rw [e] at hx; exact List.mem_of_mem_take hx
        refine ⟨line_flat _ h2, ?_⟩
        rw [col_flat _ h2]; simp; omega
      · rw [if_neg hle] at h; cases h
  | succ k ih =>
    intro l col n hc hn
    by_cases hm : (10 : UInt8) ∈ l
    · obtain ⟨b, hb⟩ := split10 hm
      have hno := tw_no l
      have hdr : l.drop ((l.takeWhile no10).length + 1) = b := by
        conv => lhs; rw [hb]
        have : ∀ (w b : List UInt8), (w ++ (10 : UInt8) :: b).drop (w.length + 1) = b := by intro w b; simp
        generalize hw : l.takeWhile no10 = w at *
        rw [show (w ++ (10 : UInt8) :: b).takeWhile no10 = w from tw_app_stop _ _ hno]; exact this w b
      have hll : l.length = (l.takeWhile no10).length + 1 + b.length := by
        have := congrArg List.length hb
        rw [List.length_append, List.length_cons] at this; omega
      have hfind : find l (k + 1 + 1) col = (find b (k + 1) col).map ((l.takeWhile no10).length + 1 + ·) := by
        unfold find
        simp only [Nat.add_sub_cancel]
        rw [startL, if_pos hm, hdr]
        cases hs : startL k b with
        | none => rfl
        | some a =>
          simp only [Option.map_some]
          have hd2 : l.drop ((l.takeWhile no10).length + 1 + a) = b.drop a := by rw [← List.drop_drop, hdr]
          rw [hd2]
          split
          · simp; omega
          · rfl
      rw [hfind]
      by_cases hlt : (l.takeWhile no10).length + 1 ≤ n
      · have htk : l.take n = l.takeWhile no10 ++ 10 :: b.take (n - ((l.takeWhile no10).length + 1)) := by
          have e : l.take n = (l.takeWhile no10 ++ 10 :: b).take n := by rw [← hb]
          rw [e, show n = (l.takeWhile no10).length + (1 + (n - ((l.takeWhile no10).length + 1))) by omega, List.take_length_add_append, Nat.add_comm 1, List.take_succ_cons]; simp; omega
        rw [htk, line_over _ _ hno, col_over]
        have := ih b col (n - ((l.takeWhile no10).length + 1)) hc (by omega)
        constructor
        · rintro ⟨h1, h2⟩
          rw [this.mp ⟨by omega, h2⟩]; simp; omega
        · intro h
          obtain ⟨q, hq, e⟩ := Option.map_eq_some_iff.mp h
          have : q = n - ((l.takeWhile no10).length + 1) := by omega
          subst this
          obtain ⟨h1, h2⟩ := (ih b col _ hc (by omega)).mpr hq
          exact ⟨by omega, h2⟩
      · have hflat : ∀ x ∈ l.take n, ¬ x = 10 := by
          intro x hx
          apply tw_no l x
          have e : l.take n = (l.takeWhile no10).take n := by
            conv => lhs; rw [hb]
            rw [List.take_append_of_le_length (by omega)]
          rw [e] at hx; exact List.mem_of_mem_take hx
        constructor
        · rintro ⟨h1, _⟩; rw [line_flat _ hflat] at h1; omega
        · intro h
          obtain ⟨q, _, e⟩ := Option.map_eq_some_iff.mp h
          omega
    · have hf : find l (k + 1 + 1) col = none := by
        unfold find; simp only [Nat.add_sub_cancel]; rw [startL, if_neg hm]
      rw [hf]
      constructor
      · rintro ⟨h1, _⟩
        have hflat : ∀ x ∈ l.take n, ¬ x = 10 := fun x hx e => hm (by rw [← e]; exact List.mem_of_mem_take hx)
        rw [line_flat _ hflat] at h1; omega
      · intro h; cases h
theorem find_le (l : List UInt8) (line col n : Nat) (h : find l line col = some n) : n ≤ l.length := by
  unfold find at h
  cases hs : startL (line - 1) l with
  | none => rw [hs] at h; cases h
  | some a =>
    rw [hs] at h; simp only at h
    by_cases hle : col - 1 ≤ ((l.drop a).takeWhile no10).length
    · rw [if_pos hle] at h
      have h1 := start_le _ _ _ hs
      have h2 := (List.takeWhile_sublist no10 (l := l.drop a)).length_le
      simp at h h2; omega
    · rw [if_neg hle] at h; cases h
theorem find_iff (l : List UInt8) (line col n : Nat) (h1 : 1 ≤ line) (h2 : 1 ≤ col) (hn : n ≤ l.length) :
    (lineOf (l.take n) = line ∧ colOf (l.take n) = col) ↔ find l line col = some n := by
  have := find_iff_aux (line - 1) l col n h2 hn
  rwa [show line - 1 + 1 = line by omega] at this
theorem find_none (l : List UInt8) (line col : Nat) (h1 : 1 ≤ line) (h2 : 1 ≤ col) :
    find l line col = none ↔ ∀ n, n ≤ l.length → ¬ (lineOf (l.take n) = line ∧ colOf (l.take n) = col) := by
  constructor
  · intro h n hn hc; rw [(find_iff l line col n h1 h2 hn).mp hc] at h; cases h
  · intro h
    cases hf : find l line col with
    | none => rfl
    | some n => exact absurd ((find_iff l line col n h1 h2 (find_le _ _ _ _ hf)).mpr hf) (h n (find_le _ _ _ _ hf))
end Go.Proofs.Ytlebdbbngliiaaa.PosL
