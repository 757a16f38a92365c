/- What the printed functions of layer 7 say, in the words of the plain laws of fields. -/
import Derived.Test.YtbembhfilbholaaPAllx
import Derived.Test.YtbembhfilbholaaSplitL
namespace Go.Proofs.Ytbembhfilbholaa.SplitC
open Go.RowKit Go.Proofs.Ytbembhfilbholaa.PAll Go.Proofs.YtbembhfilbholaaW.PrintWords Go.Proofs.YtbembhfilbholaaW.PrintLast Go.Proofs.YtbembhfilbholaaW.PrintMore Go.Proofs.Ytbembhfilbholaa.B Go.Proofs.Ytbembhfilbholaa.SplitL
set_option linter.unusedVariables false
set_option linter.unusedSimpArgs false

theorem in_some (s : ByteArray) (c : UInt8) : split_in.f s (c.toNat : Int) = some (mem s c) := by
  simp only [split_in.f, strings_IndexByte.f, stringslite_IndexByte.f, Option.bind_some, u8_of, L_def]
  congr 1
  rw [Bool.eq_iff_iff, decide_eq_true_iff, indexByte_ge0, mem]

theorem rtrim_some (ifs : ByteArray) (n : Nat) : ∀ (s : ByteArray), (L s).length = n → n ≤ 1000000 → Ev (fun k => split_Trim.l1 k s ifs) (mkB (rtrim (mem ifs) (L s))) := by
  induction n with
  | zero =>
    intro s h hn
    have h0 : L s = [] := List.length_eq_zero_iff.mp h
    refine Ev.step (fun k => by rw [split_Trim.l1]) ?_
    exact ev_pos (by rw [tl, h0]) (ev_now (by rw [← mkB_L s, L_mkB, h0]; rfl))
  | succ n ih =>
    intro s h hn
    obtain ⟨m, c, hm⟩ : ∃ m c, L s = m ++ [c] := by
      rcases List.eq_nil_or_concat (L s) with e | ⟨m, c, e⟩
      · rw [e] at h; simp at h
      · exact ⟨m, c, by simpa using e⟩
    have hl : m.length = n := by rw [hm] at h; simpa using h
    have e : wrap64 ((s.size : Int) - 1) = (n : Int) := by rw [sz, h, w64 (by omega) (by omega)]; omega
    refine Ev.step (fun k => by rw [split_Trim.l1]) ?_
    refine ev_neg (by rw [tl, hm]; simp) ?_
    refine ev_pos (by rw [e]; omega) (ev_pos (by rw [e, sz]; omega) ?_)
    simp only [bt_last hm (by omega), in_some]
    refine ev_some ?_
    by_cases hp : mem ifs c = true
    · refine ev_pos hp (ev_pos (by rw [e, sz]; omega) ?_)
      rw [hm, rtrim_snoc_yes _ _ _ hp]
      have e2 : L (s.extract 0 ((wrap64 ((s.size : Int) - 1)) : Int).toNat) = m := by rw [L_ext, e, hm]; simp [← hl]
      have := ih _ (by rw [e2, hl]) (by omega)
      rwa [e2] at this
    · refine ev_neg hp (ev_now ?_)
      rw [hm, rtrim_snoc_no _ _ _ (by simpa using hp), ← hm, mkB_L]

theorem trim_some (s ifs : ByteArray) (hs : (L s).length ≤ 1000000) : Ev (fun k => split_Trim.f k s ifs) (mkB (trim (mem ifs) (L s))) := by
  have key : ∀ n (s : ByteArray), (L s).length = n → n ≤ 1000000 → Ev (fun k => split_Trim.l0 k s ifs) (mkB (trim (mem ifs) (L s))) := by
    intro n; induction n with
    | zero =>
      intro s h hn
      have h0 : L s = [] := List.length_eq_zero_iff.mp h
      refine Ev.step (fun k => by rw [split_Trim.l0]) ?_
      refine ev_pos (by rw [tl, h0]) ?_
      refine Ev.step (fun k => by rw [split_Trim.j1]) ?_
      have := rtrim_some ifs 0 s h (by omega)
      rw [h0] at this ⊢; exact this
    | succ n ih =>
      intro s h hn
      obtain ⟨c, m, hm⟩ : ∃ c m, L s = c :: m := by
        cases e : L s with
        | nil => rw [e] at h; simp at h
        | cons c m => exact ⟨c, m, rfl⟩
      have hl : m.length = n := by rw [hm] at h; simpa using h
      refine Ev.step (fun k => by rw [split_Trim.l0]) ?_
      refine ev_neg (by rw [tl, hm]; simp) (ev_pos (by rw [sz]; omega) ?_)
      simp only [bt_0 hm, in_some]
      refine ev_some ?_
      by_cases hp : mem ifs c = true
      · refine ev_pos hp (ev_pos (by rw [sz]; omega) ?_)
        have e2 : L (s.extract 1 s.size) = m := by rw [L_ext, sz, hm]; simp
        have := ih _ (by rw [e2, hl]) (by omega)
        rw [e2] at this; rw [hm]; simpa [trim, List.dropWhile_cons, hp] using this
      · refine ev_neg hp ?_
        refine Ev.step (fun k => by rw [split_Trim.j1]) ?_
        have := rtrim_some ifs _ s h (by omega)
        rw [hm] at this ⊢; simpa [trim, List.dropWhile_cons, hp] using this
  exact key _ s rfl hs

/-- Where the next field begins. -/
theorem skip_some (s ifs : ByteArray) (hs : (L s).length ≤ 1000000) {R : Int × Int × Bool} : ∀ d n, (L s).length - n = d → n ≤ (L s).length →
    ∃ a, n ≤ a ∧ a ≤ (L s).length ∧ (L s).drop a = ((L s).drop n).dropWhile (mem ifs) ∧ ∀ R, Ev (fun k => split_next.j1 k s ifs (a : Int)) R → Ev (fun k => split_next.l0 k s ifs (n : Int)) R := by
  intro d; induction d with
  | zero =>
    intro n hd hn
    refine ⟨n, Nat.le_refl _, hn, by rw [List.drop_of_length_le (by omega)]; rfl, fun R h => ?_⟩
    refine Ev.step (fun k => by rw [split_next.l0]) ?_
    exact ev_neg (by rw [sz]; omega) h
  | succ d ih =>
    intro n hd hn
    have hlt : n < (L s).length := by omega
    by_cases hp : mem ifs (L s)[n] = true
    · obtain ⟨a, h1, h2, h3, h4⟩ := ih (n + 1) (by omega) (by omega)
      refine ⟨a, by omega, h2, by rw [h3, List.drop_eq_getElem_cons hlt, List.dropWhile_cons, if_pos hp], fun R h => ?_⟩
      refine Ev.step (fun k => by rw [split_next.l0]) ?_
      refine ev_pos (by rw [sz]; omega) (ev_pos (by omega) ?_)
      simp only [bt_n hlt, in_some]
      refine ev_some (ev_pos hp ?_)
      rw [w64s (by omega)]; exact h4 R h
    · refine ⟨n, Nat.le_refl _, hn, by rw [List.drop_eq_getElem_cons hlt, List.dropWhile_cons, if_neg hp], fun R h => ?_⟩
      refine Ev.step (fun k => by rw [split_next.l0]) ?_
      refine ev_pos (by rw [sz]; omega) (ev_pos (by omega) ?_)
      simp only [bt_n hlt, in_some]
      exact ev_some (ev_neg hp h)

/-- Where it ends. -/
theorem take_some (s ifs : ByteArray) (hs : (L s).length ≤ 1000000) (f : Int) : ∀ d n, (L s).length - n = d → n ≤ (L s).length →
    ∃ b, n ≤ b ∧ b ≤ (L s).length ∧ (L s).drop b = ((L s).drop n).dropWhile (fun c => !mem ifs c) ∧ ((L s).take b).drop n = ((L s).drop n).takeWhile (fun c => !mem ifs c) ∧
      Ev (fun k => split_next.l1 k s ifs f (n : Int)) (f, (b : Int), decide ((b : Int) > f)) := by
  intro d; induction d with
  | zero =>
    intro n hd hn
    refine ⟨n, Nat.le_refl _, hn, by rw [List.drop_of_length_le (by omega)]; rfl, by rw [List.drop_of_length_le (by simp; omega), List.drop_of_length_le (by omega)]; rfl, ?_⟩
    refine Ev.step (fun k => by rw [split_next.l1]) ?_
    exact ev_neg (by rw [sz]; omega) (Ev.now _)
  | succ d ih =>
    intro n hd hn
    have hlt : n < (L s).length := by omega
    by_cases hp : mem ifs (L s)[n] = true
    · refine ⟨n, Nat.le_refl _, hn, by rw [List.drop_eq_getElem_cons hlt, List.dropWhile_cons, if_neg (by simp [hp])], by rw [List.drop_eq_getElem_cons hlt, List.takeWhile_cons, if_neg (by simp [hp])]; exact List.drop_of_length_le (by simp; omega), ?_⟩
      refine Ev.step (fun k => by rw [split_next.l1]) ?_
      refine ev_pos (by rw [sz]; omega) (ev_pos (by omega) ?_)
      simp only [bt_n hlt, in_some]
      exact ev_some (ev_pos hp (Ev.now _))
    · obtain ⟨b, h1, h2, h3, h4, h5⟩ := ih (n + 1) (by omega) (by omega)
      refine ⟨b, by omega, h2, by rw [h3, List.drop_eq_getElem_cons hlt, List.dropWhile_cons, if_pos (by simpa using hp)], ?_, ?_⟩
      · rw [List.drop_eq_getElem_cons hlt, List.takeWhile_cons, if_pos (by simpa using hp), ← h4]
        rw [List.drop_eq_getElem_cons (l := (L s).take b) (by simp; omega)]; simp
      · refine Ev.step (fun k => by rw [split_next.l1]) ?_
        refine ev_pos (by rw [sz]; omega) (ev_pos (by omega) ?_)
        simp only [bt_n hlt, in_some]
        refine ev_some (ev_neg hp ?_)
        rw [w64s (by omega)]; exact h5

/-- The next field. -/
theorem next_some (s ifs : ByteArray) (hs : (L s).length ≤ 1000000) (n : Nat) (hn : n ≤ (L s).length) :
    ∃ a b : Nat, n ≤ a ∧ a ≤ b ∧ b ≤ (L s).length ∧ (L s).drop b = (((L s).drop n).dropWhile (mem ifs)).dropWhile (fun c => !mem ifs c) ∧
      ((L s).take b).drop a = (((L s).drop n).dropWhile (mem ifs)).takeWhile (fun c => !mem ifs c) ∧ Ev (fun k => split_next.f k s ifs (n : Int)) ((a : Int), (b : Int), decide ((b : Int) > (a : Int))) := by
  obtain ⟨a, h1, h2, h3, h4⟩ := skip_some s ifs hs (R := (0, 0, true)) _ n rfl hn
  obtain ⟨b, g1, g2, g3, g4, g5⟩ := take_some s ifs hs (a : Int) _ a rfl h2
  refine ⟨a, b, h1, g1, g2, by rw [g3, h3], by rw [g4, h3], ?_⟩
  have := h4 _ (Ev.step (fun k => by rw [split_next.j1]) g5)
  exact this

theorem fields_some (s ifs : ByteArray) (hs : (L s).length ≤ 1000000) : Ev (fun k => split_Fields.f k s ifs) ((fl (mem ifs) (L s)).map mkB) := by
  have key : ∀ d n acc, (L s).length - n = d → n ≤ (L s).length → acc.length ≤ n → Ev (fun k => split_Fields.l0 k s ifs (acc.map mkB) (n : Int)) ((acc ++ fl (mem ifs) ((L s).drop n)).map mkB) := by
    intro d; induction d using Nat.strongRecOn with
    | _ d ih =>
      intro n acc hd hn hacc
      obtain ⟨a, b, h1, h2, h3, h4, h5, h6⟩ := next_some s ifs hs n hn
      refine Ev.step (fun k => by rw [split_Fields.l0]) ?_
      refine Ev.bind h6 ?_
      rw [fl_next]
      have hlen : (((L s).drop n).dropWhile (mem ifs)).takeWhile (fun c => !mem ifs c) = [] ↔ b ≤ a := by
        rw [← h5, ← List.length_eq_zero_iff]; simp; omega
      by_cases hab : b ≤ a
      · refine ev_neg (by simp; omega) (ev_now ?_)
        rw [if_pos (hlen.mpr hab)]; simp
      · rw [if_neg (fun h => hab (hlen.mp h)), ← h4, ← h5]
        refine ev_pos (by simp; omega) (ev_pos (by dsimp only; omega) (ev_pos (by dsimp only; omega) (ev_pos (by dsimp only; rw [sz]; omega) (ev_pos (by rw [List.length_map]; omega) ?_))))
        simp only [ext_mkB]
        have := ih ((L s).length - b) (by omega) b (acc ++ [((L s).take b).drop a]) rfl h3 (by simp; omega)
        simpa using this
  have := key _ 0 [] rfl (Nat.zero_le _) (Nat.zero_le _)
  show Ev (fun k => split_Fields.l0 k s ifs [] 0) _
  simpa using this

theorem whole_some (s ifs : ByteArray) (hs : (L s).length ≤ 1000000) : Ev (fun k => split_Whole.f k s ifs) (decide (fl (mem ifs) (L s) = [L s])) := by
  refine Ev.bind (fields_some s ifs hs) ?_
  by_cases h : (fl (mem ifs) (L s)).length = 1
  · obtain ⟨x, hx⟩ := List.length_eq_one_iff.mp h
    refine ev_pos (by rw [List.length_map]; omega) (ev_pos (by rw [List.length_map]; omega) (ev_now ?_))
    rw [hx, Bool.eq_iff_iff]; simp [rdOf, tl, L_mkB]
  · refine ev_neg (by simp; omega) (ev_now ?_)
    have : ¬ fl (mem ifs) (L s) = [L s] := fun e => h (by rw [e]; rfl)
    simp [this]

/-- So many words as are told. -/
def many (n : Int) : Nat := (mn (mx n 1) 100).toNat - 1
theorem many_is (n : Int) : mn (mx n 1) 100 = ((many n + 1 : Nat) : Int) ∧ many n ≤ 99 := by unfold many mn mx; (repeat' split) <;> omega

theorem words_some (s ifs : ByteArray) (hs : (L s).length ≤ 1000000) (n : Int) : Ev (fun k => split_Words.f k s ifs n) ((words (mem ifs) (many n) (L s)).map mkB) := by
  obtain ⟨hm, hm99⟩ := many_is n
  generalize hq : many n = q at *
  have key : ∀ d i at_ (xs : List (List UInt8)), q - i = d → i ≤ q → at_ ≤ (L s).length → xs.length = i →
      Ev (fun k => split_Words.l0 k s ifs ((q + 1 : Nat) : Int) ((xs ++ List.replicate (q + 1 - i) []).map mkB) (at_ : Int) (((q + 1 : Nat) : Int) - 1) (i : Int)) ((xs ++ words (mem ifs) (q - i) ((L s).drop at_)).map mkB) := by
    intro d; induction d with
    | zero =>
      intro i at_ xs hd hi hat hx
      have hi' : i = q := by omega
      subst hi'
      refine Ev.step (fun k => by rw [split_Words.l0]) ?_
      refine ev_neg (by omega) (ev_pos (by omega) (ev_pos (by rw [sz]; omega) ?_))
      have e : L (s.extract ((at_ : Int)).toNat s.size) = (L s).drop at_ := by rw [L_ext, sz]; simp
      have ht := trim_some (s.extract ((at_ : Int)).toNat s.size) ifs (by rw [e]; simp; omega)
      refine Ev.bind ht ?_
      have hw : wrap64 (((i + 1 : Nat) : Int) - 1) = (i : Int) := by rw [w64 (by omega) (by omega)]; omega
      simp only [hw]
      refine ev_pos (by omega) (ev_pos (by simp; omega) (ev_now ?_))
      rw [e]
      have : i + 1 - i = 1 := by omega
      rw [this, Nat.sub_self]
      simp [words, ← hx]
    | succ d ih =>
      intro i at_ xs hd hi hat hx
      obtain ⟨a, b, h1, h2, h3, h4, h5, h6⟩ := next_some s ifs hs at_ hat
      refine Ev.step (fun k => by rw [split_Words.l0]) ?_
      refine ev_pos (by omega) (Ev.bind h6 ?_)
      have hqi : q - i = (q - (i + 1)) + 1 := by omega
      have hlen : (((L s).drop at_).dropWhile (mem ifs)).takeWhile (fun c => !mem ifs c) = [] ↔ b ≤ a := by
        rw [← h5, ← List.length_eq_zero_iff]; simp; omega
      by_cases hab : b ≤ a
      · refine ev_neg (by simp; omega) (ev_now ?_)
        have hz : ((L s).drop at_).dropWhile (mem ifs) = [] := by
          rcases dw_shape (mem ifs) ((L s).drop at_) with e | ⟨c, m, e, hc⟩
          · exact e
          · have := hlen.mpr hab; rw [e] at this; simp [List.takeWhile_cons, hc] at this
        rw [words_none _ _ _ hz]
        have : q + 1 - i = q - i + 1 := by omega
        rw [this]
      · refine ev_pos (by simp; omega) (ev_pos (by dsimp only; omega) (ev_pos (by dsimp only; omega) (ev_pos (by dsimp only; rw [sz]; omega) (ev_pos (by omega) (ev_pos (by simp; omega) ?_)))))
        rw [w64s (by omega), hqi, words, ← h4, ← h5]
        have := ih (i + 1) b (xs ++ [((L s).take b).drop a]) (by omega) (by omega) h3 (by simp [hx])
        simp only [List.append_assoc, List.singleton_append] at this
        have e3 : ((xs ++ List.replicate (q + 1 - i) []).map mkB).set ((i : Int)).toNat (s.extract ((a : Int)).toNat ((b : Int)).toNat) = (xs ++ (((L s).take b).drop a) :: List.replicate (q + 1 - (i + 1)) []).map mkB := by
          have : q + 1 - i = (q + 1 - (i + 1)) + 1 := by omega
          rw [this, List.replicate_succ, ext_mkB]; simp [← hx]
        simp only [e3]
        exact this
  have := key q 0 0 [] (by omega) (by omega) (by omega) rfl
  show Ev (fun k => split_Words.f k s ifs n) _
  unfold split_Words.f
  simp only [hm]
  refine ev_pos (by omega) (ev_pos (by omega) ?_)
  simpa [lit_mkB] using this

/-! ### the document's -/
theorem rin_some (s : ByteArray) (c : UInt8) (hs : (L s).length ≤ 1000000) : Ev (fun k => conchref1_in.f k s (c.toNat : Int)) (mem s c) := by
  have key : ∀ d n, (L s).length - n = d → n ≤ (L s).length → Ev (fun k => conchref1_in.l0 k s (c.toNat : Int) (n : Int)) (((L s).drop n).contains c) := by
    intro d; induction d with
    | zero =>
      intro n hd hn
      refine Ev.step (fun k => by rw [conchref1_in.l0]) ?_
      exact ev_neg (by rw [sz]; omega) (ev_now (by rw [List.drop_of_length_le (by omega)]; rfl))
    | succ d ih =>
      intro n hd hn
      have hlt : n < (L s).length := by omega
      refine Ev.step (fun k => by rw [conchref1_in.l0]) ?_
      refine ev_pos (by rw [sz]; omega) (ev_pos (by omega) ?_)
      rw [List.drop_eq_getElem_cons hlt]
      by_cases h : (L s)[n] = c
      · exact ev_pos (by rw [bt_n hlt, h]) (ev_now (by simp [h]))
      · refine ev_neg (by rw [bt_n hlt, u8_int]; exact h) ?_
        rw [w64s (by omega)]
        have := ih (n + 1) (by omega) (by omega)
        have h' : (c == (L s)[n]) = false := by simpa using fun e => h (Eq.symm e)
        rw [List.contains_cons, h', Bool.false_or]; exact this
  have := key _ 0 rfl (Nat.zero_le _)
  show Ev (fun k => conchref1_in.l0 k s (c.toNat : Int) 0) ((L s).contains c)
  simpa using this

theorem rrtrim_some (ifs : ByteArray) (hi : (L ifs).length ≤ 1000000) (n : Nat) : ∀ (s : ByteArray), (L s).length = n → n ≤ 1000000 → Ev (fun k => conchref1_Trim.l1 k s ifs) (mkB (rtrim (mem ifs) (L s))) := by
  induction n with
  | zero =>
    intro s h hn
    have h0 : L s = [] := List.length_eq_zero_iff.mp h
    refine Ev.step (fun k => by rw [conchref1_Trim.l1]) ?_
    exact ev_pos (by rw [tl, h0]) (ev_now (by rw [← mkB_L s, L_mkB, h0]; rfl))
  | succ n ih =>
    intro s h hn
    obtain ⟨m, c, hm⟩ : ∃ m c, L s = m ++ [c] := by
      rcases List.eq_nil_or_concat (L s) with e | ⟨m, c, e⟩
      · rw [e] at h; simp at h
      · exact ⟨m, c, by simpa using e⟩
    have hl : m.length = n := by rw [hm] at h; simpa using h
    have e : wrap64 ((s.size : Int) - 1) = (n : Int) := by rw [sz, h, w64 (by omega) (by omega)]; omega
    refine Ev.step (fun k => by rw [conchref1_Trim.l1]) ?_
    refine ev_neg (by rw [tl, hm]; simp) ?_
    refine ev_pos (by rw [e]; omega) (ev_pos (by rw [e, sz]; omega) ?_)
    simp only [bt_last hm (by omega)]
    refine Ev.bind (rin_some ifs c hi) ?_
    by_cases hp : mem ifs c = true
    · refine ev_pos hp (ev_pos (by rw [e, sz]; omega) ?_)
      rw [hm, rtrim_snoc_yes _ _ _ hp]
      have e2 : L (s.extract 0 ((wrap64 ((s.size : Int) - 1)) : Int).toNat) = m := by rw [L_ext, e, hm]; simp [← hl]
      have := ih _ (by rw [e2, hl]) (by omega)
      rwa [e2] at this
    · refine ev_neg hp (ev_now ?_)
      rw [hm, rtrim_snoc_no _ _ _ (by simpa using hp), ← hm, mkB_L]

theorem rtrimd_some (s ifs : ByteArray) (hi : (L ifs).length ≤ 1000000) (hs : (L s).length ≤ 1000000) : Ev (fun k => conchref1_Trim.f k s ifs) (mkB (trim (mem ifs) (L s))) := by
  have key : ∀ n (s : ByteArray), (L s).length = n → n ≤ 1000000 → Ev (fun k => conchref1_Trim.l0 k s ifs) (mkB (trim (mem ifs) (L s))) := by
    intro n; induction n with
    | zero =>
      intro s h hn
      have h0 : L s = [] := List.length_eq_zero_iff.mp h
      refine Ev.step (fun k => by rw [conchref1_Trim.l0]) ?_
      refine ev_pos (by rw [tl, h0]) ?_
      refine Ev.step (fun k => by rw [conchref1_Trim.j1]) ?_
      have := rrtrim_some ifs hi 0 s h (by omega)
      rw [h0] at this ⊢; exact this
    | succ n ih =>
      intro s h hn
      obtain ⟨c, m, hm⟩ : ∃ c m, L s = c :: m := by
        cases e : L s with
        | nil => rw [e] at h; simp at h
        | cons c m => exact ⟨c, m, rfl⟩
      have hl : m.length = n := by rw [hm] at h; simpa using h
      refine Ev.step (fun k => by rw [conchref1_Trim.l0]) ?_
      refine ev_neg (by rw [tl, hm]; simp) (ev_pos (by rw [sz]; omega) ?_)
      simp only [bt_0 hm]
      refine Ev.bind (rin_some ifs c hi) ?_
      by_cases hp : mem ifs c = true
      · refine ev_pos hp (ev_pos (by rw [sz]; omega) ?_)
        have e2 : L (s.extract 1 s.size) = m := by rw [L_ext, sz, hm]; simp
        have := ih _ (by rw [e2, hl]) (by omega)
        rw [e2] at this; rw [hm]; simpa [trim, List.dropWhile_cons, hp] using this
      · refine ev_neg hp ?_
        refine Ev.step (fun k => by rw [conchref1_Trim.j1]) ?_
        have := rrtrim_some ifs hi _ s h (by omega)
        rw [hm] at this ⊢; simpa [trim, List.dropWhile_cons, hp] using this
  exact key _ s rfl hs

theorem rfields_some (s ifs : ByteArray) (hi : (L ifs).length ≤ 1000000) (hs : (L s).length ≤ 1000000) : Ev (fun k => conchref1_Fields.f k s ifs) ((fl (mem ifs) (L s)).map mkB) := by
  have key : ∀ d i from_ acc, (L s).length + 1 - i = d → i ≤ (L s).length + 1 → from_ ≤ i → acc.length ≤ i →
      Ev (fun k => conchref1_Fields.l0 k s ifs (acc.map mkB) (from_ : Int) (i : Int)) ((if i ≤ (L s).length then acc ++ flA (mem ifs) (((L s).take i).drop from_) ((L s).drop i) else acc).map mkB) := by
    intro d; induction d with
    | zero =>
      intro i from_ acc hd hi hf ha
      refine Ev.step (fun k => by rw [conchref1_Fields.l0]) ?_
      exact ev_neg (by rw [sz]; omega) (ev_now (by rw [if_neg (by omega)]))
    | succ d ih =>
      intro i from_ acc hd hi2 hf ha
      rw [if_pos (by omega)]
      refine Ev.step (fun k => by rw [conchref1_Fields.l0]) ?_
      refine ev_pos (by rw [sz]; omega) ?_
      have fin : ∀ rest, flA (mem ifs) (((L s).take i).drop from_) ((L s).drop i) = (if i > from_ then [((L s).take i).drop from_] else []) ++ rest →
          ((if i + 1 ≤ (L s).length then flA (mem ifs) [] ((L s).drop (i + 1)) else []) = rest) →
          Ev (fun k => conchref1_Fields.j1 k s ifs (acc.map mkB) (from_ : Int) (i : Int) false) ((acc ++ flA (mem ifs) (((L s).take i).drop from_) ((L s).drop i)).map mkB) := by
        intro rest h1 h2
        refine Ev.step (fun k => by rw [conchref1_Fields.j1]) ?_
        refine ev_neg (by simp) ?_
        have hd2 : ((L s).take (i + 1)).drop (i + 1) = [] := List.drop_of_length_le (by simp; omega)
        by_cases hif : i > from_
        · refine ev_pos (by omega) (ev_pos (by omega) (ev_pos (by omega) (ev_pos (by rw [sz]; omega) (ev_pos (by simp; omega) ?_))))
          simp only [ext_mkB, w64s (n := i) (by omega)]
          have := ih (i + 1) (i + 1) (acc ++ [((L s).take i).drop from_]) (by omega) (by omega) (Nat.le_refl _) (by simp; omega)
          rw [h1, if_pos hif, ← h2]
          rw [hd2] at this
          have e : (acc ++ ([List.drop from_ (List.take i (L s))] ++ if i + 1 ≤ (L s).length then flA (mem ifs) [] (List.drop (i + 1) (L s)) else [])) = (if i + 1 ≤ (L s).length then acc ++ [List.drop from_ (List.take i (L s))] ++ flA (mem ifs) [] (List.drop (i + 1) (L s)) else acc ++ [List.drop from_ (List.take i (L s))]) := by split <;> simp
          rw [e]; simpa using this
        · refine ev_neg (by omega) ?_
          simp only [w64s (n := i) (by omega)]
          have := ih (i + 1) (i + 1) acc (by omega) (by omega) (Nat.le_refl _) (by omega)
          rw [h1, if_neg hif, ← h2]
          rw [hd2] at this
          have e : (acc ++ ([] ++ if i + 1 ≤ (L s).length then flA (mem ifs) [] (List.drop (i + 1) (L s)) else [])) = (if i + 1 ≤ (L s).length then acc ++ flA (mem ifs) [] (List.drop (i + 1) (L s)) else acc) := by split <;> simp
          rw [e]; exact this
      have hemp : ((L s).take i).drop from_ = [] ↔ ¬ i > from_ := by rw [← List.length_eq_zero_iff]; simp; omega
      by_cases hlt : i < (L s).length
      · refine ev_pos (by rw [sz]; omega) (ev_pos (by omega) ?_)
        simp only [bt_n hlt]
        refine Ev.bind (rin_some ifs _ hi) ?_
        by_cases hp : mem ifs (L s)[i] = true
        · rw [hp]
          refine fin (fl (mem ifs) ((L s).drop (i + 1))) ?_ (by rw [if_pos (by omega)]; rfl)
          rw [List.drop_eq_getElem_cons hlt, flA, if_pos hp]
          by_cases hif : i > from_
          · rw [if_neg (fun h => hemp.mp h hif), if_pos hif]; rfl
          · rw [if_pos (hemp.mpr hif), if_neg hif]; rfl
        · have hp' : mem ifs (L s)[i] = false := by simpa using hp
          rw [hp']
          refine Ev.step (fun k => by rw [conchref1_Fields.j1]) ?_
          refine ev_pos (by simp) ?_
          simp only [w64s (n := i) (by omega)]
          have := ih (i + 1) from_ acc (by omega) (by omega) (by omega) (by omega)
          rw [if_pos (by omega)] at this
          rw [List.drop_eq_getElem_cons hlt, flA, if_neg hp]
          have e : ((L s).take (i + 1)).drop from_ = ((L s).take i).drop from_ ++ [(L s)[i]] := by
            rw [List.take_succ_eq_append_getElem hlt, List.drop_append_of_le_length (by simp; omega)]
          rw [e] at this; exact this
      · refine ev_neg (by rw [sz]; omega) ?_
        refine fin [] ?_ (by rw [if_neg (by omega)])
        rw [List.drop_of_length_le (l := L s) (i := i) (by omega), flA, List.append_nil]
        by_cases hif : i > from_
        · rw [if_neg (fun h => hemp.mp h hif), if_pos hif]
        · rw [if_pos (hemp.mpr hif), if_neg hif]
  have := key _ 0 0 [] rfl (by omega) (Nat.le_refl _) (Nat.zero_le _)
  show Ev (fun k => conchref1_Fields.l0 k s ifs [] 0 0) _
  simpa [fl] using this

theorem rwhole_some (s ifs : ByteArray) (hi : (L ifs).length ≤ 1000000) (hs : (L s).length ≤ 1000000) : Ev (fun k => conchref1_Whole.f k s ifs) (decide (fl (mem ifs) (L s) = [L s])) := by
  refine Ev.bind (rfields_some s ifs hi hs) ?_
  by_cases h : (fl (mem ifs) (L s)).length = 1
  · obtain ⟨x, hx⟩ := List.length_eq_one_iff.mp h
    refine ev_pos (by rw [List.length_map]; omega) (ev_pos (by rw [List.length_map]; omega) (ev_now ?_))
    rw [hx, Bool.eq_iff_iff]; simp [rdOf, tl, L_mkB]
  · refine ev_neg (by simp; omega) (ev_now ?_)
    have : ¬ fl (mem ifs) (L s) = [L s] := fun e => h (by rw [e]; rfl)
    simp [this]

theorem rwords_some (s ifs : ByteArray) (hi : (L ifs).length ≤ 1000000) (hs : (L s).length ≤ 1000000) (n : Int) : Ev (fun k => conchref1_Words.f k s ifs n) ((words (mem ifs) (many n) (L s)).map mkB) := by
  obtain ⟨hm, hm99⟩ := many_is n
  generalize hq : many n = q at *
  have hw : wrap64 (((q + 1 : Nat) : Int) - 1) = (q : Int) := by rw [w64 (by omega) (by omega)]; omega
  have key : ∀ d (xs : List (List UInt8)) (s : ByteArray), (L s).length ≤ 1000000 → q - xs.length = d → xs.length ≤ q →
      Ev (fun k => conchref1_Words.l0 k s ifs ((q + 1 : Nat) : Int) (xs.map mkB)) ((xs ++ words (mem ifs) (q - xs.length) (L s)).map mkB) := by
    intro d; induction d with
    | zero =>
      intro xs s hs hd hx
      have hxq : xs.length = q := by omega
      refine Ev.step (fun k => by rw [conchref1_Words.l0]) ?_
      refine ev_neg (by rw [hw]; simp; omega) ?_
      refine Ev.bind (rtrimd_some s ifs hi hs) (ev_pos (by simp; omega) (ev_now ?_))
      rw [hxq, Nat.sub_self]; simp [words]
    | succ d ih =>
      intro xs s hs hd hx
      refine Ev.step (fun k => by rw [conchref1_Words.l0]) ?_
      refine ev_pos (by rw [hw]; simp; omega) ?_
      refine Ev.bind (rtrimd_some s ifs hi hs) ?_
      rw [← words_trim]
      have hts := trim_dw (mem ifs) (L s)
      have htl := trim_len (mem ifs) (L s)
      generalize trim (mem ifs) (L s) = t at *
      -- the word's end is looked for
      have inner : ∀ e i, t.length - i = e → i ≤ t.length → (∀ c ∈ t.take i, mem ifs c = false) →
          Ev (fun k => conchref1_Words.l1 k (mkB t) ifs ((q + 1 : Nat) : Int) (xs.map mkB) (i : Int)) ((xs ++ words (mem ifs) (q - xs.length) t).map mkB) := by
        have fin : ∀ i, i ≤ t.length → t.take i = t.takeWhile (fun c => !mem ifs c) → t.drop i = t.dropWhile (fun c => !mem ifs c) →
            Ev (fun k => conchref1_Words.l0 k ((mkB t).extract ((i : Int)).toNat (mkB t).size) ifs ((q + 1 : Nat) : Int) (xs.map mkB ++ [(mkB t).extract 0 ((i : Int)).toNat])) ((xs ++ words (mem ifs) (q - xs.length) t).map mkB) := by
          intro i hi2 h1 h2
          simp only [ext_mkB, L_mkB, sz_mkB, Int.toNat_natCast, List.drop_zero, List.take_length]
          have := ih (xs ++ [t.take i]) (mkB (t.drop i)) (by rw [L_mkB]; simp; omega) (by simp; omega) (by simp; omega)
          have hqx : q - xs.length = (q - (xs ++ [t.take i]).length) + 1 := by simp; omega
          rw [L_mkB] at this
          rw [hqx, words, hts, ← h1, ← h2]
          simpa using this
        intro e; induction e with
        | zero =>
          intro i he hi2 hall
          have hit : i = t.length := by omega
          refine Ev.step (fun k => by rw [conchref1_Words.l1]) ?_
          refine ev_neg (by rw [sz_mkB]; omega) (ev_pos (by omega) (ev_pos (by rw [sz_mkB]; omega) (ev_pos (by simp; omega) ?_)))
          have hall' : ∀ c ∈ t, mem ifs c = false := by rw [hit, List.take_length] at hall; exact hall
          have hk : ∀ l : List UInt8, (∀ c ∈ l, mem ifs c = false) → l.takeWhile (fun c => !mem ifs c) = l ∧ l.dropWhile (fun c => !mem ifs c) = [] := by
            intro l hl; induction l with
            | nil => simp
            | cons c l ihl => simp [List.takeWhile_cons, List.dropWhile_cons, hl c (by simp)]; have := ihl (fun x hx => hl x (by simp [hx])); simpa using this
          refine fin i hi2 ?_ ?_
          · rw [hit, List.take_length, (hk t hall').1]
          · rw [hit, List.drop_length, (hk t hall').2]
        | succ e ihe =>
          intro i he hi2 hall
          have hlt : i < t.length := by omega
          refine Ev.step (fun k => by rw [conchref1_Words.l1]) ?_
          refine ev_pos (by rw [sz_mkB]; omega) (ev_pos (by omega) ?_)
          simp only [bt_mk hlt]
          refine Ev.bind (rin_some ifs _ hi) ?_
          have hk : ∀ l m : List UInt8, (∀ c ∈ l, mem ifs c = false) → (l ++ m).takeWhile (fun c => !mem ifs c) = l ++ m.takeWhile (fun c => !mem ifs c) ∧ (l ++ m).dropWhile (fun c => !mem ifs c) = m.dropWhile (fun c => !mem ifs c) := by
            intro l m hl; induction l with
            | nil => simp
            | cons c l ihl => simp [List.takeWhile_cons, List.dropWhile_cons, hl c (by simp)]; have := ihl (fun x hx => hl x (by simp [hx])); simpa using this
          by_cases hp : mem ifs t[i] = true
          · refine ev_pos hp (ev_pos (by rw [sz_mkB]; omega) (ev_pos (by simp; omega) ?_))
            have hsp : t = t.take i ++ t[i] :: t.drop (i + 1) := by rw [← List.drop_eq_getElem_cons hlt, List.take_append_drop]
            have h3 := hk (t.take i) (t[i] :: t.drop (i + 1)) hall
            rw [← hsp] at h3
            refine fin i hi2 ?_ ?_
            · rw [h3.1, List.takeWhile_cons, if_neg (by simp [hp]), List.append_nil]
            · rw [h3.2, List.dropWhile_cons, if_neg (by simp [hp]), ← List.drop_eq_getElem_cons hlt]
          · refine ev_neg hp ?_
            rw [w64s (by omega)]
            refine ihe (i + 1) (by omega) (by omega) ?_
            intro c hc
            rw [List.take_succ_eq_append_getElem hlt] at hc
            rcases List.mem_append.mp hc with h | h
            · exact hall c h
            · simp at h; subst h; simpa using hp
      exact inner _ 0 rfl (Nat.zero_le _) (by simp)
  have := key _ [] s hs rfl (Nat.zero_le _)
  show Ev (fun k => conchref1_Words.f k s ifs n) _
  unfold conchref1_Words.f
  simp only [hm]
  simpa using this

/-! ### rows of texts; a tame text -/
theorem same_some (xs ys : List ByteArray) (hx : xs.length ≤ 1000000) : Ev (fun k => conchlaw1_SameTexts.f k xs ys) (decide (xs = ys)) := by
  by_cases hl : xs.length = ys.length
  · have key : ∀ d n, xs.length - n = d → n ≤ xs.length → Ev (fun k => conchlaw1_SameTexts.l0 k xs ys (n : Int)) (decide (xs.drop n = ys.drop n)) := by
      intro d; induction d with
      | zero =>
        intro n hd hn
        refine Ev.step (fun k => by rw [conchlaw1_SameTexts.l0]) ?_
        exact ev_neg (by omega) (ev_now (by rw [List.drop_of_length_le (l := xs) (by omega), List.drop_of_length_le (l := ys) (by omega)]; simp))
      | succ d ih =>
        intro n hd hn
        have h1 : n < xs.length := by omega
        have h2 : n < ys.length := by omega
        refine Ev.step (fun k => by rw [conchlaw1_SameTexts.l0]) ?_
        refine ev_pos (by omega) (ev_pos (by omega) (ev_pos (by omega) ?_))
        have e1 : rdOf ByteArray.empty xs (n : Int) = xs[n] := by simp [rdOf, List.getD, h1]
        have e2 : rdOf ByteArray.empty ys (n : Int) = ys[n] := by simp [rdOf, List.getD, h2]
        rw [List.drop_eq_getElem_cons h1, List.drop_eq_getElem_cons h2]
        by_cases h : xs[n] = ys[n]
        · refine ev_pos (by rw [e1, e2, h]) ?_
          rw [w64s (by omega)]
          simp only [List.cons.injEq, h, true_and]
          exact ih (n + 1) (by omega) (by omega)
        · refine ev_neg (by rw [e1, e2, tl, tl, L_iff]; exact h) (ev_now (by simp only [List.cons.injEq, h, false_and, decide_false]))
    have := key _ 0 rfl (Nat.zero_le _)
    refine ev_pos (by omega) ?_
    simpa using this
  · refine ev_neg (by omega) (ev_now ?_)
    have : ¬ xs = ys := fun h => hl (by rw [h])
    simp [this]

theorem tame_some (s : ByteArray) : ∃ t, (L t).length ≤ 20 ∧ Ev (fun k => conchlaw7_Tame.f k s) t := by
  have key : ∀ d n (x : ByteArray), 20 - n = d → n ≤ 20 → (L x).length ≤ n → ∃ t, (L t).length ≤ 20 ∧ Ev (fun k => conchlaw7_Tame.l0 k s x (n : Int)) t := by
    intro d; induction d with
    | zero =>
      intro n x hd hn hx
      refine ⟨x, by omega, Ev.step (fun k => by rw [conchlaw7_Tame.l0]) ?_⟩
      by_cases h : (n : Int) < (s.size : Int)
      · exact ev_pos h (ev_neg (by omega) (Ev.now _))
      · exact ev_neg h (Ev.now _)
    | succ d ih =>
      intro n x hd hn hx
      by_cases h : (n : Int) < (s.size : Int)
      · have hb := bt_range s (n : Int)
        have hm : Int.tmod (bt s (n : Int)) 5 = bt s (n : Int) % 5 := by rw [Int.tmod_eq_emod_of_nonneg hb.1]
        have hw : (bt s (n : Int) % 5 + 1) % 256 = bt s (n : Int) % 5 + 1 := by omega
        obtain ⟨t, ht, hE⟩ := ih (n + 1) (x ++ ((⟨#[97, 98, 32, 9, 58]⟩ : ByteArray).extract ((bt s (n : Int) % 5) : Int).toNat ((bt s (n : Int) % 5 + 1) : Int).toNat)) (by omega) (by omega) (by
          rw [L_app, L_ext]; simp only [List.length_append, List.length_drop, List.length_take]; omega)
        refine ⟨t, ht, Ev.step (fun k => by rw [conchlaw7_Tame.l0]) ?_⟩
        simp only [hm, hw, w64s (n := n) (by omega)]
        refine ev_pos h (ev_pos (by omega) (ev_pos (by omega) (ev_pos (by omega) (ev_pos (by omega) (ev_pos (by omega) (ev_pos ?_ hE))))))
        rw [sz, sz, L_ext]; simp only [List.length_drop, List.length_take]; omega
      · exact ⟨x, by omega, Ev.step (fun k => by rw [conchlaw7_Tame.l0]) (ev_neg h (Ev.now _))⟩
  exact key 20 0 _ rfl (by omega) (by rw [L_lit]; simp)

theorem awake_some : Ev (fun k => conchlaw7_awake.f k) true := by
  refine Ev.of (fun k => conchlaw7_awake.mono k) (k := 60) ?_
  decide +kernel
end Go.Proofs.Ytbembhfilbholaa.SplitC
