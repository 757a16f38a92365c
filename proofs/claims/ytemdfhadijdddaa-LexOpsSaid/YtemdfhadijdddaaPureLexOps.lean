/- Each operator is told whole, whatever stands behind it, but where that makes a longer one; it begins with a byte that ends a word: the plain statement. -/
import Derived.Test.YtemdfhadijdddaaPAllx6
import Derived.Test.YtemdfhadijdddaaLexC
namespace Go.Proofs.Ytemdfhadijdddaa.Pure
open Go.RowKit Go.Proofs.Ytemdfhadijdddaa.PAll Go.Proofs.YtemdfhadijdddaaW.PrintWords Go.Proofs.YtemdfhadijdddaaW.PrintLast Go.Proofs.Ytemdfhadijdddaa.B Go.Proofs.Ytemdfhadijdddaa.LexL Go.Proofs.Ytemdfhadijdddaa.LexC
set_option linter.unusedVariables false
set_option linter.unusedSimpArgs false

def allL : List (List UInt8) := [[59, 59], [38, 38], [124, 124], [59], [124], [38], [40], [41], [60], [62], [62, 62], [60, 60], [60, 38], [62, 38], [60, 62], [62, 124], [10]]
/-- Is a longer operator made? -/
def longer (x more : List UInt8) (l : List (List UInt8)) : Bool := l.any fun a => decide (a.length > x.length) && (decide ((x ++ more).length ≥ a.length) && ((x ++ more).take a.length == a))

theorem ops_end (more : List UInt8) (hm : more.length ≤ 100) (x : List UInt8) (hx : x ∈ allL) (o : ByteArray) (ok : Bool)
    (h1 : ok = true) (h2 : ((L o == x) == !(longer x more allL)) = true) (h3 : (L o).length ≥ x.length) (d : Nat) :
    ∀ n (b : Bool), 17 - n = d → n ≤ 17 → b = longer x more (allL.take n) → Ev (fun k => conchlaw9_LexOps.l0 k (mkB more) (allL.map mkB) (mkB x) o ok b (n : Int)) true := by
  have hlen : allL.length = 17 := rfl
  have hxl : x.length ≤ 2 ∧ x ≠ [] := by
    have : ∀ a ∈ allL, a.length ≤ 2 ∧ a ≠ [] := by decide
    exact this x hx
  have happ : mkB x ++ mkB more = mkB (x ++ more) := by rw [app_mkB, L_mkB, L_mkB]
  have hno : operAt ((⟨#[97, 98]⟩ : ByteArray) ++ mkB x) 1 = (mkB [], false) := by
    have : ∀ a ∈ allL, operAt ((⟨#[97, 98]⟩ : ByteArray) ++ mkB a) 1 = (mkB [], false) := by
      intro a ha
      have e : L ((⟨#[97, 98]⟩ : ByteArray) ++ mkB a) = 97 :: 98 :: a := by rw [L_app, L_mkB]; rfl
      unfold operAt; rw [e, if_pos (by simp; omega)]
      have : ∀ a ∈ allL, opS (98 :: a) = none := by decide
      have := this a ha
      show (match opS (98 :: a) with | some o => (mkB o, true) | none => (mkB [], false)) = _
      rw [this]
    exact this x hx
  induction d with
  | zero =>
    intro n b hd hn hb
    have hn' : n = 17 := by omega
    subst hn'
    have hb' : b = longer x more allL := hb
    have e1 := sz o
    refine Ev.step (fun k => by rw [conchlaw9_LexOps.l0]) (ev_neg (by rw [List.length_map, hlen]; omega) (ev_pos (by rw [sz_mkB]; omega) ?_))
    refine Ev.bind (op_some _ 1 (by rw [L_app, L_mkB]; simp [L_lit]; omega)) (ev_pos h1 (ev_pos ?_ (ev_pos (by rw [sz_mkB]; omega) (ev_neg (by rw [hno]; simp) ?_))))
    · rw [tl, tl_mkB, hb']; exact h2
    · obtain ⟨c, m, rfl⟩ : ∃ c m, x = c :: m := by
        cases x with
        | nil => exact absurd rfl hxl.2
        | cons c m => exact ⟨c, m, rfl⟩
      refine ev_pos (by rw [sz_mkB, List.length_cons]; omega) ?_
      simp only [bt_0 (L_mkB (c :: m)), ends_some]
      refine ev_some (ev_pos ?_ (Ev.bind awake_some (Ev.now _)))
      have : ∀ a ∈ allL, ∀ c m, a = c :: m → ([32, 9, 10, 59, 38, 124, 40, 41, 60, 62] : List UInt8).contains c = true := by
        intro a ha c m e; subst e
        simp [allL] at ha
        rcases ha with ha | ha | ha | ha | ha | ha | ha | ha | ha | ha | ha | ha | ha | ha | ha | ha | ha <;> simp [ha]
      exact this _ hx c m rfl
  | succ d ih =>
    intro n b hd hn hb
    have hlt : n < allL.length := by omega
    have hal : allL[n].length ≤ 2 := by
      have : ∀ m : Nat, (h : m < allL.length) → allL[m].length ≤ 2 := by decide
      exact this n hlt
    have hb2 : longer x more (allL.take (n + 1)) = (b || (decide (allL[n].length > x.length) && (decide ((x ++ more).length ≥ allL[n].length) && ((x ++ more).take allL[n].length == allL[n])))) := by
      rw [List.take_succ_eq_append_getElem hlt, hb]; simp only [longer, List.any_append, List.any_cons, List.any_nil, Bool.or_false]
    have next : ∀ b', b' = longer x more (allL.take (n + 1)) → Ev (fun k => conchlaw9_LexOps.l0 k (mkB more) (allL.map mkB) (mkB x) o ok b' (wrap64 ((n : Int) + 1))) true := by
      intro b' h; rw [w64s (by omega)]; exact ih (n + 1) b' (by omega) (by omega) h
    refine Ev.step (fun k => by rw [conchlaw9_LexOps.l0]) (ev_pos (by rw [List.length_map]; omega) ?_)
    by_cases hbt : b = true
    · exact ev_pos hbt (next true (by rw [hb2, hbt]; rfl))
    · have hbf : b = false := by simpa using hbt
      refine ev_neg hbt (ev_pos (by omega) ?_)
      simp only [rdOf_map hlt, happ, sz_mkB]
      by_cases c1 : ((allL[n].length : Nat) : Int) > ((x.length : Nat) : Int)
      · refine ev_pos c1 (ev_pos (by omega) ?_)
        have c1' : decide (allL[n].length > x.length) = true := decide_eq_true (by omega)
        by_cases c2 : (((x ++ more).length : Nat) : Int) ≥ ((allL[n].length : Nat) : Int)
        · have c2' : decide ((x ++ more).length ≥ allL[n].length) = true := decide_eq_true (by omega)
          refine ev_pos c2 (ev_pos (by omega) (ev_pos (by omega) (next _ ?_)))
          rw [hb2, hbf, c1', c2', tl, tl_mkB, ext_mkB, L_mkB, L_mkB]; simp
        · have c2' : decide ((x ++ more).length ≥ allL[n].length) = false := decide_eq_false (by omega)
          exact ev_neg c2 (next _ (by rw [hb2, hbf, c1', c2']; rfl))
      · have c1' : decide (allL[n].length > x.length) = false := decide_eq_false (by omega)
        exact ev_neg c1 (next _ (by rw [hb2, hbf, c1']; rfl))

theorem longer_none (x more : List UInt8) (h : x.length = 2) : longer x more allL = false := by
  unfold longer; rw [List.any_eq_false]; intro a ha
  have : ∀ a ∈ allL, a.length ≤ 2 := by decide
  have := this a ha
  rw [show decide (a.length > x.length) = false from decide_eq_false (by omega)]; simp
theorem longer_one (c : UInt8) : longer [c] [] allL = false := by
  unfold longer; rw [List.any_eq_false]; intro a ha
  by_cases h : a.length > 1
  · have e : decide ((([c] : List UInt8) ++ []).length ≥ a.length) = false := decide_eq_false (by simp; omega)
    rw [e, Bool.false_and, Bool.and_false]; decide
  · rw [show decide (a.length > ([c] : List UInt8).length) = false from decide_eq_false (by simpa using h)]; simp
theorem longer_two (c d : UInt8) (m : List UInt8) : longer [c] (d :: m) allL = doubles.contains [c, d] := by
  unfold longer
  have key : ∀ a ∈ allL, (decide (a.length > ([c] : List UInt8).length) && (decide ((([c] : List UInt8) ++ d :: m).length ≥ a.length) && ((([c] : List UInt8) ++ d :: m).take a.length == a))) = (a == [c, d]) := by
    have : ∀ a ∈ allL, a.length = 1 ∨ a.length = 2 := by decide
    intro a ha
    rcases this a ha with h | h
    · rw [h]
      have : (a == [c, d]) = false := by
        rw [beq_eq_false_iff_ne]; intro e; rw [e] at h; simp at h
      rw [this]; simp
    · rw [h]
      have : (([c] : List UInt8) ++ d :: m).take 2 = [c, d] := rfl
      rw [this, show ([c, d] == a) = (a == [c, d]) from Bool.beq_comm]
      simp
  have e : allL.any (fun a => a == [c, d]) = doubles.contains [c, d] := by
    rw [Bool.eq_iff_iff]; simp [allL, doubles]
    constructor
    · rintro (h | h | h | h | h | h | h | h | h) <;> simp [h.1.symm, h.2.symm]
    · rintro (h | h | h | h | h | h | h | h | h) <;> simp [h.1, h.2]
  rw [← e]
  have any_congr : ∀ (l : List (List UInt8)) (f g : List UInt8 → Bool), (∀ a ∈ l, f a = g a) → l.any f = l.any g := by
    intro l f g h; induction l with
    | nil => rfl
    | cons a l ih => simp [List.any_cons, h a (by simp), ih (fun b hb => h b (by simp [hb]))]
  exact any_congr _ _ _ key

theorem LexOps : conchlaw9_LexOps.Pure := by
  intro w s hw hs
  refine ev_ex (r := true) ?_
  show Ev (fun k => conchlaw9_LexOps.f k w s) true
  unfold conchlaw9_LexOps.f
  by_cases h1 : (s.size : Int) > 100
  · exact ev_pos h1 (Ev.bind awake_some (Ev.now _))
  · have hl : (L s).length ≤ 100 := by rw [← sz]; omega
    refine ev_neg h1 ?_
    show Ev (fun k => (some (allL.map mkB)).bind _) true
    refine ev_some ?_
    have hq0 : 0 ≤ w % 256 := Int.emod_nonneg _ (by decide)
    have hlen : (((allL.map mkB).length : Nat) : Int) = 17 := rfl
    have hq : Int.tmod (Go.bits .and .i64 w 255) (((allL.map mkB).length : Nat) : Int) = (((w % 256 % 17).toNat : Nat) : Int) := by
      rw [bits_and255, hlen, Int.tmod_eq_emod_of_nonneg hq0]; omega
    simp only [hq]
    have hlt : (w % 256 % 17).toNat < allL.length := by show _ < 17; omega
    have h17 : allL.length = 17 := rfl
    generalize (w % 256 % 17).toNat = n at *
    simp only [rdOf_map hlt]
    have hxm : allL[n] ∈ allL := List.getElem_mem hlt
    generalize allL[n] = x at *
    have hxl : x.length ≤ 2 ∧ x ≠ [] := by
      have : ∀ a ∈ allL, a.length ≤ 2 ∧ a ≠ [] := by decide
      exact this x hxm
    have e1 := sz s
    refine ev_neg (by rw [hlen]; omega) (ev_pos (by omega) (ev_pos (by rw [hlen]; omega) (ev_pos (by rw [sz_mkB]; omega) (ev_pos (by rw [sz, L_app, L_mkB]; simp [L_lit]; omega) ?_))))
    have hL : L (((⟨#[97, 98]⟩ : ByteArray) ++ mkB x) ++ s) = 97 :: 98 :: (x ++ L s) := by rw [L_app, L_app, L_mkB]; rfl
    refine Ev.bind (op_some _ 2 (by rw [hL]; simp; omega)) ?_
    have hop : operAt (((⟨#[97, 98]⟩ : ByteArray) ++ mkB x) ++ s) 2 = (match opS (x ++ L s) with | some o => (mkB o, true) | none => (mkB [], false)) := by
      unfold operAt; rw [hL, if_pos (by have := List.length_pos_iff.mpr hxl.2; simp; omega)]; rfl
    rw [hop, ← mkB_L s]
    simp only [L_mkB]
    generalize L s = more at *
    have fin : ∀ o, opS (x ++ more) = some o → ((o == x) == !(longer x more allL)) = true → o.length ≥ x.length →
        Ev (fun k => conchlaw9_LexOps.l0 k (mkB more) (allL.map mkB) (mkB x) (match opS (x ++ more) with | some o => (mkB o, true) | none => (mkB [], false)).1 (match opS (x ++ more) with | some o => (mkB o, true) | none => (mkB [], false)).2 false ((0 : Nat) : Int)) true := by
      intro o ho h2 h3; rw [ho]
      exact ops_end more hl x hxm (mkB o) true rfl (by rw [L_mkB]; exact h2) (by rw [L_mkB]; exact h3) 17 0 false rfl (by omega) rfl
    have dbl : ∀ a ∈ allL, a.length = 2 → doubles.contains a = true := by decide
    have sgl : ∀ a ∈ allL, ∀ c, a = [c] → singles.contains c = true := by
      intro a ha c e; subst e
      simp [allL] at ha
      rcases ha with ha | ha | ha | ha | ha | ha | ha | ha <;> simp [singles, ha]
    match x, hxm, hxl, fin with
    | [], _, hxl, _ => exact absurd rfl hxl.2
    | [c], hxm, hxl, fin =>
      have hc := sgl _ hxm c rfl
      cases more with
      | nil =>
        refine fin [c] ?_ ?_ (Nat.le_refl _)
        · rw [List.append_nil, opS_one, if_pos hc]
        · rw [longer_one]; simp
      | cons d m =>
        by_cases hd : doubles.contains [c, d] = true
        · refine fin [c, d] ?_ ?_ (by simp)
          · show opS (c :: d :: m) = _; rw [opS_two, if_pos hd]
          · rw [longer_two, hd]; simp
        · refine fin [c] ?_ ?_ (Nat.le_refl _)
          · show opS (c :: d :: m) = _; rw [opS_two, if_neg hd, if_pos hc]
          · rw [longer_two, show doubles.contains [c, d] = false by simpa using hd]; simp
    | [c, d], hxm, hxl, fin =>
      refine fin [c, d] ?_ ?_ (Nat.le_refl _)
      · show opS (c :: d :: more) = _; rw [opS_two, if_pos (dbl _ hxm rfl)]
      · rw [longer_none _ _ rfl]; simp
    | c :: d :: e :: m, _, hxl, _ => exact absurd hxl.1 (by simp)

end Go.Proofs.Ytemdfhadijdddaa.Pure
