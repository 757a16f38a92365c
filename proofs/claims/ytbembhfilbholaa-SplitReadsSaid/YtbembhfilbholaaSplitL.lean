/- Fields of a list of bytes: what splitting, trimming and telling words are, and their laws. No program in sight. -/
import Derived.Test.YtbembhfilbholaaB
namespace Go.Proofs.Ytbembhfilbholaa.SplitL
set_option linter.unusedVariables false
set_option linter.unusedSimpArgs false
variable (p : UInt8 → Bool)

/-- The fields of a row, behind the bytes of a field that has begun. -/
def flA : List UInt8 → List UInt8 → List (List UInt8)
  | cur, [] => if cur = [] then [] else [cur]
  | cur, c :: l => if p c then (if cur = [] then flA [] l else cur :: flA [] l) else flA (cur ++ [c]) l
def fl (l : List UInt8) : List (List UInt8) := flA p [] l

/-- Without bytes that part at its ends. -/
def rtrim (l : List UInt8) : List UInt8 := (l.reverse.dropWhile p).reverse
def trim (l : List UInt8) : List UInt8 := rtrim p (l.dropWhile p)

def none_ (l : List UInt8) : Prop := ∀ c ∈ l, p c = false
def all_ (l : List UInt8) : Prop := ∀ c ∈ l, p c = true

theorem dw_all {l : List UInt8} (h : all_ p l) (m : List UInt8) : (l ++ m).dropWhile p = m.dropWhile p := by
  induction l with
  | nil => rfl
  | cons c l ih => simp [List.dropWhile_cons, h c (by simp), ih (fun x hx => h x (by simp [hx]))]
theorem dw_all' {l : List UInt8} (h : all_ p l) : l.dropWhile p = [] := by have := dw_all p h []; simpa using this
theorem dw_head {l : List UInt8} {c : UInt8} (h : p c = false) : (c :: l).dropWhile p = c :: l := by simp [List.dropWhile_cons, h]
theorem dw_dw (l : List UInt8) : (l.dropWhile p).dropWhile p = l.dropWhile p := by
  induction l with
  | nil => rfl
  | cons c l ih => by_cases h : p c = true <;> simp_all [List.dropWhile_cons]
theorem tw_all (l : List UInt8) : all_ p (l.takeWhile p) := fun c hc => by
  induction l with
  | nil => simp at hc
  | cons d l ih =>
    by_cases h : p d = true
    · simp only [List.takeWhile_cons, h, if_true, List.mem_cons] at hc
      rcases hc with rfl | hc
      · exact h
      · exact ih hc
    · simp [List.takeWhile_cons, h] at hc
theorem tw_none (l : List UInt8) : none_ p (l.takeWhile (fun c => !p c)) := fun c hc => by
  have := tw_all (fun c => !p c) l c hc; simpa using this
theorem dw_shape (l : List UInt8) : l.dropWhile p = [] ∨ ∃ c m, l.dropWhile p = c :: m ∧ p c = false := by
  induction l with
  | nil => simp
  | cons c l ih =>
    by_cases h : p c = true
    · simpa [List.dropWhile_cons, h] using ih
    · right; exact ⟨c, l, by simp [List.dropWhile_cons, h], by simpa using h⟩
theorem ndw_shape (l : List UInt8) : l.dropWhile (fun c => !p c) = [] ∨ ∃ c m, l.dropWhile (fun c => !p c) = c :: m ∧ p c = true := by
  rcases dw_shape (fun c => !p c) l with h | ⟨c, m, h, hc⟩
  · exact .inl h
  · exact .inr ⟨c, m, h, by simpa using hc⟩

/-! ### fields -/
theorem flA_none {w : List UInt8} (h : none_ p w) (cur m : List UInt8) : flA p cur (w ++ m) = flA p (cur ++ w) m := by
  induction w generalizing cur with
  | nil => simp
  | cons c w ih => simp [flA, h c (by simp), ih (fun x hx => h x (by simp [hx]))]
theorem fl_skip {l : List UInt8} (h : all_ p l) (m : List UInt8) : fl p (l ++ m) = fl p m := by
  induction l with
  | nil => rfl
  | cons c l ih =>
    have := ih (fun x hx => h x (by simp [hx]))
    unfold fl at *; simp [flA, h c (by simp), this]
theorem fl_nil : fl p [] = [] := rfl
theorem fl_dw (l : List UInt8) : fl p (l.dropWhile p) = fl p l := by
  conv => rhs; rw [← List.takeWhile_append_dropWhile (p := p) (l := l)]
  rw [fl_skip p (tw_all p l)]
/-- A field, and then nothing, or a byte that parts. -/
theorem fl_field {w m : List UInt8} (hw : none_ p w) (hne : w ≠ []) (hm : m = [] ∨ ∃ c m', m = c :: m' ∧ p c = true) : fl p (w ++ m) = w :: fl p m := by
  unfold fl; rw [flA_none p hw, List.nil_append]
  rcases hm with rfl | ⟨c, m', rfl, hc⟩
  · simp [flA, hne]
  · simp [flA, hne, hc]
/-- The next field, as it is told: bytes that part are passed, then the field is taken. -/
theorem fl_next (l : List UInt8) : fl p l = if (l.dropWhile p).takeWhile (fun c => !p c) = [] then [] else
    (l.dropWhile p).takeWhile (fun c => !p c) :: fl p ((l.dropWhile p).dropWhile (fun c => !p c)) := by
  rw [← fl_dw]
  split
  · rename_i h
    rcases dw_shape p l with h' | ⟨c, m, h', hc⟩
    · rw [h']; rfl
    · rw [h'] at h; simp [List.takeWhile_cons, hc] at h
  · rename_i h
    conv => lhs; rw [← List.takeWhile_append_dropWhile (p := fun c => !p c) (l := l.dropWhile p)]
    exact fl_field p (tw_none p _) h (ndw_shape p _)
theorem flA_app (cur l m : List UInt8) (c : UInt8) (hc : p c = true) : flA p cur (l ++ c :: m) = flA p cur l ++ fl p m := by
  induction l generalizing cur with
  | nil => by_cases h : cur = [] <;> simp [flA, h, hc, fl]
  | cons d l ih =>
    by_cases hd : p d = true
    · by_cases h : cur = [] <;> simp [flA, h, hd, ih]
    · simp [flA, hd, ih]
theorem fl_app (l m : List UInt8) (c : UInt8) (hc : p c = true) : fl p (l ++ c :: m) = fl p l ++ fl p m := flA_app p [] l m c hc
theorem flA_all (cur l : List UInt8) (h : all_ p l) (hne : cur ≠ []) : flA p cur l = [cur] := by
  cases l with
  | nil => simp [flA, hne]
  | cons c l => simp [flA, h c (by simp), hne]; have := fl_skip p (l := l) (fun x hx => h x (by simp [hx])) []; simpa [fl, flA] using this
theorem flA_tail (cur l m : List UInt8) (h : all_ p m) : flA p cur (l ++ m) = flA p cur l := by
  induction l generalizing cur with
  | nil =>
    by_cases hc : cur = []
    · subst hc; have := fl_skip p h []; simpa [fl, flA] using this
    · rw [List.nil_append, flA_all p cur m h hc]; simp [flA, hc]
  | cons d l ih =>
    by_cases hd : p d = true
    · by_cases hc : cur = [] <;> simp [flA, hc, hd, ih]
    · simp [flA, hd, ih]
theorem fl_tail (l m : List UInt8) (h : all_ p m) : fl p (l ++ m) = fl p l := flA_tail p [] l m h
theorem rtrim_split (l : List UInt8) : ∃ m, all_ p m ∧ l = rtrim p l ++ m := by
  refine ⟨(l.reverse.takeWhile p).reverse, fun c hc => tw_all p l.reverse c (by simpa using hc), ?_⟩
  have := List.takeWhile_append_dropWhile (p := p) (l := l.reverse)
  have := congrArg List.reverse this
  rw [List.reverse_append, List.reverse_reverse] at this
  exact this.symm
theorem fl_rtrim (l : List UInt8) : fl p (rtrim p l) = fl p l := by
  obtain ⟨m, hm, e⟩ := rtrim_split p l
  conv => rhs; rw [e, fl_tail p _ _ hm]
theorem fl_trim (l : List UInt8) : fl p (trim p l) = fl p l := by rw [trim, fl_rtrim, fl_dw]
/-- Each field is not empty and has no byte that parts. -/
theorem flA_mem (cur l : List UInt8) (hcur : none_ p cur) : ∀ f ∈ flA p cur l, f ≠ [] ∧ none_ p f := by
  induction l generalizing cur with
  | nil =>
    by_cases hc : cur = []
    · simp [flA, hc]
    · intro f hf; simp [flA, hc] at hf; subst hf; exact ⟨hc, hcur⟩
  | cons d l ih =>
    intro f hf
    by_cases hd : p d = true
    · by_cases hc : cur = []
      · simp [flA, hd, hc] at hf; exact ih [] (fun _ h => by simp at h) f hf
      · simp [flA, hd, hc] at hf
        rcases hf with rfl | hf
        · exact ⟨hc, hcur⟩
        · exact ih [] (fun _ h => by simp at h) f hf
    · simp [flA, hd] at hf
      refine ih _ ?_ f hf
      intro x hx; rcases List.mem_append.mp hx with h | h
      · exact hcur x h
      · simp at h; subst h; simpa using hd
theorem fl_mem (l : List UInt8) : ∀ f ∈ fl p l, f ≠ [] ∧ none_ p f := flA_mem p [] l (fun _ h => by simp at h)
theorem fl_one {w : List UInt8} (h : none_ p w) (hne : w ≠ []) : fl p w = [w] := by
  have := fl_field p h hne (m := []) (.inl rfl); simpa [fl_nil] using this
theorem fl_whole (l : List UInt8) : fl p l = [l] ↔ l ≠ [] ∧ none_ p l :=
  ⟨fun h => fl_mem p l l (by rw [h]; simp), fun ⟨a, b⟩ => fl_one p b a⟩
/-- Fields joined by bytes that part are told again. -/
theorem fl_joined (c : UInt8) (hc : p c = true) (xs : List (List UInt8)) (h : ∀ f ∈ xs, f ≠ [] ∧ none_ p f) :
    fl p (xs.flatMap fun x => c :: (x ++ [c])) = xs := by
  induction xs with
  | nil => rfl
  | cons x xs ih =>
    have ih := ih (fun f hf => h f (by simp [hf])); obtain ⟨hx, hn⟩ := h x (by simp)
    simp only [List.flatMap_cons, List.cons_append, List.append_assoc, List.singleton_append, List.nil_append]
    rw [show c :: (x ++ c :: xs.flatMap fun x => c :: (x ++ [c])) = [c] ++ (x ++ c :: xs.flatMap fun x => c :: (x ++ [c])) from rfl]
    rw [fl_skip p (l := [c]) (fun y hy => by simp at hy; rw [hy]; exact hc), fl_app p _ _ _ hc, ih, fl_one p hn hx]; rfl

/-! ### trimming -/
theorem rtrim_snoc_yes (l : List UInt8) (c : UInt8) (h : p c = true) : rtrim p (l ++ [c]) = rtrim p l := by simp [rtrim, List.dropWhile_cons, h]
theorem rtrim_snoc_no (l : List UInt8) (c : UInt8) (h : p c = false) : rtrim p (l ++ [c]) = l ++ [c] := by simp [rtrim, List.dropWhile_cons, h]
theorem rtrim_nil : rtrim p [] = [] := rfl
theorem rtrim_tail (l m : List UInt8) (h : all_ p m) : rtrim p (l ++ m) = rtrim p l := by
  unfold rtrim; rw [List.reverse_append, dw_all p (fun c hc => h c (by simpa using hc))]
theorem rtrim_len (l : List UInt8) : (rtrim p l).length ≤ l.length := by
  obtain ⟨m, _, e⟩ := rtrim_split p l
  have := congrArg List.length e; simp at this; omega
theorem dw_len (l : List UInt8) : (l.dropWhile p).length ≤ l.length := by
  have := congrArg List.length (List.takeWhile_append_dropWhile (p := p) (l := l)); rw [List.length_append] at this; omega
theorem trim_len (l : List UInt8) : (trim p l).length ≤ l.length := Nat.le_trans (rtrim_len p _) (dw_len p _)
theorem rtrim_last (l : List UInt8) (h : rtrim p l ≠ []) : p ((rtrim p l).getLast h) = false := by
  unfold rtrim at *
  rw [List.getLast_reverse]
  rcases dw_shape p l.reverse with e | ⟨c, m, e, hc⟩
  · simp [e] at h
  · simp [e, hc]
theorem rtrim_rtrim (l : List UInt8) : rtrim p (rtrim p l) = rtrim p l := by unfold rtrim; rw [List.reverse_reverse, dw_dw]
theorem rtrim_head {c : UInt8} (l : List UInt8) (h : p c = false) : ∃ m, rtrim p (c :: l) = c :: m := by
  obtain ⟨m, hm, e⟩ := rtrim_split p (c :: l)
  cases hr : rtrim p (c :: l) with
  | nil => rw [hr] at e; simp at e; rw [← e] at hm; have := hm c (by simp); rw [h] at this; cases this
  | cons d r => rw [hr] at e; simp at e; exact ⟨r, by rw [e.1]⟩
theorem trim_shape (l : List UInt8) : trim p l = [] ∨ ∃ c m, trim p l = c :: m ∧ p c = false := by
  unfold trim
  rcases dw_shape p l with e | ⟨c, m, e, hc⟩
  · left; rw [e]; rfl
  · obtain ⟨m', e'⟩ := rtrim_head p m hc
    right; exact ⟨c, m', by rw [e, e'], hc⟩
theorem trim_dw (l : List UInt8) : (trim p l).dropWhile p = trim p l := by
  rcases trim_shape p l with e | ⟨c, m, e, hc⟩
  · rw [e]; rfl
  · rw [e, dw_head p hc]
theorem trim_trim (l : List UInt8) : trim p (trim p l) = trim p l := by
  rw [trim, trim_dw, trim, rtrim_rtrim]
theorem trim_around (x l y : List UInt8) (hx : all_ p x) (hy : all_ p y) : trim p (x ++ l ++ y) = trim p l := by
  unfold trim
  rw [List.append_assoc, dw_all p hx]
  rcases dw_shape p l with e | ⟨c, m, e, hc⟩
  · have : all_ p l := by
      intro c h; have := tw_all p l; have e2 := List.takeWhile_append_dropWhile (p := p) (l := l); rw [e, List.append_nil] at e2; rw [e2] at this; exact this c h
    rw [dw_all p this, dw_all' p hy, e]
  · have e2 := List.takeWhile_append_dropWhile (p := p) (l := l)
    rw [← e2, List.append_assoc, dw_all p (tw_all p l), dw_all p (tw_all p l), e, List.cons_append, dw_head p hc, dw_head p hc, ← List.cons_append, rtrim_tail p _ _ hy]
theorem trim_none (l : List UInt8) (h : none_ p l) : trim p l = l := by
  have key : ∀ l, none_ p l → l.dropWhile p = l := by
    intro l h; cases l with
    | nil => rfl
    | cons c l => exact dw_head p (h c (by simp))
  unfold trim rtrim; rw [key l h, key _ (fun c hc => h c (by simpa using hc)), List.reverse_reverse]

/-! ### words -/
/-- So many words: the first ones are fields, the last one is what is left. -/
def words : Nat → List UInt8 → List (List UInt8)
  | 0, l => [trim p l]
  | n + 1, l => (l.dropWhile p).takeWhile (fun c => !p c) :: words n ((l.dropWhile p).dropWhile (fun c => !p c))
theorem words_len (n : Nat) (l : List UInt8) : (words p n l).length = n + 1 := by
  induction n generalizing l with
  | zero => rfl
  | succ n ih => simp [words, ih]
theorem words_none (n : Nat) (l : List UInt8) (h : l.dropWhile p = []) : words p n l = List.replicate (n + 1) [] := by
  induction n generalizing l with
  | zero => simp [words, trim, h, rtrim]
  | succ n ih => rw [words, h, List.takeWhile_nil, List.dropWhile_nil, ih [] rfl]; rfl
theorem words_dw (n : Nat) (l : List UInt8) : words p n (l.dropWhile p) = words p n l := by
  cases n with
  | zero => simp [words, trim, dw_dw]
  | succ n => simp [words, dw_dw]
theorem rtrim_dw_comm (l : List UInt8) : (rtrim p l).dropWhile p = rtrim p (l.dropWhile p) := by
  rcases dw_shape p l with e | ⟨c, m, e, hc⟩
  · have ha : all_ p l := by
      intro c h; have := tw_all p l; have e2 := List.takeWhile_append_dropWhile (p := p) (l := l); rw [e, List.append_nil] at e2; rw [e2] at this; exact this c h
    have : rtrim p l = [] := by unfold rtrim; rw [dw_all' p (fun c hc => ha c (by simpa using hc))]; rfl
    rw [this, e]; rfl
  · have e2 := List.takeWhile_append_dropWhile (p := p) (l := l)
    have h1 := trim_dw p l
    obtain ⟨m', e'⟩ := rtrim_head p m hc
    obtain ⟨y, hy, ey⟩ := rtrim_split p (c :: m)
    have : rtrim p l = l.takeWhile p ++ (c :: m') := by
      have hl := rtrim_last p (c :: m) (by rw [e']; simp)
      have e3 : (l.takeWhile p ++ (c :: m')) = (l.takeWhile p ++ (c :: m').dropLast) ++ [(c :: m').getLast (by simp)] := by
        rw [List.append_assoc, List.dropLast_concat_getLast]
      have hl' : p ((c :: m').getLast (by simp)) = false := by
        have : ∀ (a b : List UInt8) (ha : a ≠ []) (hb : b ≠ []), a = b → a.getLast ha = b.getLast hb := by intro a b ha hb h; subst h; rfl
        rw [this _ _ (by simp) (by rw [e']; simp) e'.symm]; exact hl
      have e4 := rtrim_snoc_no p (l.takeWhile p ++ (c :: m').dropLast) _ hl'
      have hl2 : l = (l.takeWhile p ++ (c :: m')) ++ y := by rw [List.append_assoc, ← e', ← ey, ← e, e2]
      conv => lhs; rw [hl2]
      rw [rtrim_tail p _ _ hy, e3]; exact e4
    rw [this, dw_all p (tw_all p l), dw_head p hc, e, e']
/-- The document trims at each word: that says nothing. -/
theorem words_rtrim (n : Nat) (l : List UInt8) : words p n (rtrim p l) = words p n l := by
  induction n generalizing l with
  | zero => simp only [words, trim]; rw [rtrim_dw_comm, rtrim_rtrim]
  | succ n ih =>
    simp only [words]
    rw [rtrim_dw_comm]
    rcases dw_shape p l with e | ⟨c, m, e, hc⟩
    · rw [e]; rfl
    · obtain ⟨y, hy, ey⟩ := rtrim_split p (l.dropWhile p)
      have key : ∀ (r y : List UInt8), all_ p y → (r ++ y).takeWhile (fun c => !p c) = r.takeWhile (fun c => !p c) ∧ (r ++ y).dropWhile (fun c => !p c) = r.dropWhile (fun c => !p c) ++ y := by
        intro r y hy; induction r with
        | nil => cases y with
          | nil => simp
          | cons d y => simp [List.takeWhile_cons, List.dropWhile_cons, hy d (by simp)]
        | cons d r ih => by_cases hd : p d = true <;> simp [List.takeWhile_cons, List.dropWhile_cons, hd, ih]
      have hk := key (rtrim p (l.dropWhile p)) y hy
      rw [← ey] at hk
      rw [hk.1, hk.2]
      congr 1
      rw [← ih, ← ih (_ ++ y), rtrim_tail p _ _ hy]
theorem words_trim (n : Nat) (l : List UInt8) : words p n (trim p l) = words p n l := by rw [trim, words_rtrim, words_dw]
end Go.Proofs.Ytbembhfilbholaa.SplitL
