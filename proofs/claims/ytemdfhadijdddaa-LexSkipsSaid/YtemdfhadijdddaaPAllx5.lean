-- Written by a program of this work (wip/tools/gprint.py).
import Derived.Test.YtemdfhadijdddaaPAllx0
import Derived.Test.YtemdfhadijdddaaPAllx1
import Derived.Test.YtemdfhadijdddaaPAllx2
import Derived.Test.YtemdfhadijdddaaPAllx3
import Derived.Test.YtemdfhadijdddaaPAllx4
namespace Go.Proofs.Ytemdfhadijdddaa.PAll
open Go.RowKit Go.Proofs.YtemdfhadijdddaaW.PrintWords Go.Proofs.YtemdfhadijdddaaW.PrintLast Go.Proofs.YtemdfhadijdddaaW.PrintMore
attribute [local go_sem] max2_int min2_int max_two min_two max_three min_three max_four min_four   -- for this text's walks alone
set_option linter.unusedVariables false
set_option linter.unusedSimpArgs false

/-! ### conchlaw9_LexTells: function 4 -/
mutual
def conchlaw9_LexTells.l0 : Nat → ByteArray → Int → Int → Int → Option (Bool)
  | 0, _, _, _, _ => none
  | k + 1, x0, x1, x2, x7 => if x7 < 2 then ((lex_Op.f k x0 x1).bind fun bt152 => ((conchref1_Op.f k x0 x1).bind fun bt154 => (if bt152.1.toList = bt154.1.toList then (if (bt152.2 != bt154.2) = true then (conchlaw9_LexTells.j1 k x0 x1 x2 x7 true) else ((lex_Skip.f k x0 x1).bind fun t156 => ((conchref1_Skip.f k x0 x1).bind fun t157 => (conchlaw9_LexTells.j1 k x0 x1 x2 x7 (t156 != t157))))) else (conchlaw9_LexTells.j1 k x0 x1 x2 x7 true)))) else ((lex_Ends.f x2).bind fun t161 => ((conchref1_Ends.f k x2).bind fun t162 => (if (t161 == t162) = true then ((lex_Reserved.f k x0).bind fun t163 => ((conchref1_Reserved.f x0).bind fun t164 => (if (t163 == t164) = true then ((conchlaw9_awake.f k).bind fun t165 => (some t165)) else (some false)))) else (some false))))
def conchlaw9_LexTells.j1 : Nat → ByteArray → Int → Int → Int → Bool → Option (Bool)
  | 0, _, _, _, _, _ => none
  | k + 1, x0, x1, x2, x7, x55 => if x55 = true then (some false) else ((lex_Single.f k x0 x1).bind fun bt158 => (if x1 ≥ 0 then (if x1 < (x0.size : Int) then (if 0 ≤ x1 then (conchlaw9_LexTells.j2 k x0 x1 x2 x7 bt158.1 bt158.2.1 bt158.2.2 (⟨#[]⟩ : ByteArray) 0 false ((bt x0 x1) == 39)) else (none)) else (conchlaw9_LexTells.j2 k x0 x1 x2 x7 bt158.1 bt158.2.1 bt158.2.2 (⟨#[]⟩ : ByteArray) 0 false false)) else (conchlaw9_LexTells.j2 k x0 x1 x2 x7 bt158.1 bt158.2.1 bt158.2.2 (⟨#[]⟩ : ByteArray) 0 false false)))
def conchlaw9_LexTells.j2 : Nat → ByteArray → Int → Int → Int → ByteArray → Int → Bool → ByteArray → Int → Bool → Bool → Option (Bool)
  | 0, _, _, _, _, _, _, _, _, _, _, _ => none
  | k + 1, x0, x1, x2, x7, x12, x13, x14, x15, x16, x17, x76 => if x76 = true then (conchlaw9_LexTells.l1 k x0 x1 x2 x7 x12 x13 x14 x15 x16 x17 (wrap64 (x1 + 1))) else (if x12.toList = x15.toList then (if x13 = x16 then (if (x14 != x17) = true then (some false) else (if (wrap64 ((x0.size : Int) + 1)) = 0 then (none) else (conchlaw9_LexTells.l0 k x0 (Int.tmod (Go.bits .and .i64 x1 65535) (wrap64 ((x0.size : Int) + 1))) x2 (wrap64 (x7 + 1))))) else (some false)) else (some false))
def conchlaw9_LexTells.l1 : Nat → ByteArray → Int → Int → Int → ByteArray → Int → Bool → ByteArray → Int → Bool → Int → Option (Bool)
  | 0, _, _, _, _, _, _, _, _, _, _, _ => none
  | k + 1, x0, x1, x2, x7, x12, x13, x14, x15, x16, x17, x18 => if x18 < (x0.size : Int) then (conchlaw9_LexTells.j4 k x0 x1 x2 x7 x12 x13 x14 x15 x16 x17 x18 (!x17)) else (conchlaw9_LexTells.j4 k x0 x1 x2 x7 x12 x13 x14 x15 x16 x17 x18 false)
def conchlaw9_LexTells.j4 : Nat → ByteArray → Int → Int → Int → ByteArray → Int → Bool → ByteArray → Int → Bool → Int → Bool → Option (Bool)
  | 0, _, _, _, _, _, _, _, _, _, _, _, _ => none
  | k + 1, x0, x1, x2, x7, x12, x13, x14, x15, x16, x17, x18, x86 => if x86 = true then (if 0 ≤ x18 then (if x18 < (x0.size : Int) then (if (bt x0 x18) = 39 then (if 0 ≤ (wrap64 (x1 + 1)) then (if (wrap64 (x1 + 1)) ≤ x18 then (if x18 ≤ (x0.size : Int) then (conchlaw9_LexTells.l1 k x0 x1 x2 x7 x12 x13 x14 (x0.extract ((wrap64 (x1 + 1)) : Int).toNat (x18 : Int).toNat) (wrap64 (x18 + 1)) true (wrap64 (x18 + 1))) else (none)) else (none)) else (none)) else (conchlaw9_LexTells.l1 k x0 x1 x2 x7 x12 x13 x14 x15 x16 x17 (wrap64 (x18 + 1)))) else (none)) else (none)) else (if x12.toList = x15.toList then (if x13 = x16 then (if (x14 != x17) = true then (some false) else (if (wrap64 ((x0.size : Int) + 1)) = 0 then (none) else (conchlaw9_LexTells.l0 k x0 (Int.tmod (Go.bits .and .i64 x1 65535) (wrap64 ((x0.size : Int) + 1))) x2 (wrap64 (x7 + 1))))) else (some false)) else (some false))
end
def conchlaw9_LexTells.f (k : Nat) (a0 : ByteArray) (a1 : Int) (a2 : Int) : Option (Bool) := if (a0.size : Int) > 300 then ((conchlaw9_awake.f k).bind fun t151 => (some t151)) else (conchlaw9_LexTells.l0 k a0 a1 a2 0)
theorem conchlaw9_LexTells.mono_l : ∀ k, (∀ y0 y1 y2 y3, LeO (conchlaw9_LexTells.l0 k y0 y1 y2 y3) (conchlaw9_LexTells.l0 (k + 1) y0 y1 y2 y3)) ∧ (∀ y0 y1 y2 y3 y4, LeO (conchlaw9_LexTells.j1 k y0 y1 y2 y3 y4) (conchlaw9_LexTells.j1 (k + 1) y0 y1 y2 y3 y4)) ∧ (∀ y0 y1 y2 y3 y4 y5 y6 y7 y8 y9 y10, LeO (conchlaw9_LexTells.j2 k y0 y1 y2 y3 y4 y5 y6 y7 y8 y9 y10) (conchlaw9_LexTells.j2 (k + 1) y0 y1 y2 y3 y4 y5 y6 y7 y8 y9 y10)) ∧ (∀ y0 y1 y2 y3 y4 y5 y6 y7 y8 y9 y10, LeO (conchlaw9_LexTells.l1 k y0 y1 y2 y3 y4 y5 y6 y7 y8 y9 y10) (conchlaw9_LexTells.l1 (k + 1) y0 y1 y2 y3 y4 y5 y6 y7 y8 y9 y10)) ∧ (∀ y0 y1 y2 y3 y4 y5 y6 y7 y8 y9 y10 y11, LeO (conchlaw9_LexTells.j4 k y0 y1 y2 y3 y4 y5 y6 y7 y8 y9 y10 y11) (conchlaw9_LexTells.j4 (k + 1) y0 y1 y2 y3 y4 y5 y6 y7 y8 y9 y10 y11))
  | 0 => ⟨fun _ _ _ _ r h => by simp [conchlaw9_LexTells.l0] at h, fun _ _ _ _ _ r h => by simp [conchlaw9_LexTells.j1] at h, fun _ _ _ _ _ _ _ _ _ _ _ r h => by simp [conchlaw9_LexTells.j2] at h, fun _ _ _ _ _ _ _ _ _ _ _ r h => by simp [conchlaw9_LexTells.l1] at h, fun _ _ _ _ _ _ _ _ _ _ _ _ r h => by simp [conchlaw9_LexTells.j4] at h⟩
  | k + 1 => by
    obtain ⟨ih0, ih1, ih2, ih3, ih4⟩ := conchlaw9_LexTells.mono_l k
    refine ⟨?_, ?_, ?_, ?_, ?_⟩
    · intro y0 y1 y2 y3
      unfold conchlaw9_LexTells.l0
      repeat' first
      | (with_reducible exact ih0 _ _ _ _)
      | (with_reducible exact ih1 _ _ _ _ _)
      | (with_reducible exact ih2 _ _ _ _ _ _ _ _ _ _ _)
      | (with_reducible exact ih3 _ _ _ _ _ _ _ _ _ _ _)
      | (with_reducible exact ih4 _ _ _ _ _ _ _ _ _ _ _ _)
      | (with_reducible exact conchlaw9_awake.mono _)
      | (with_reducible exact conchref1_Ends.mono _ _)
      | (with_reducible exact conchref1_Op.mono _ _ _)
      | (with_reducible exact conchref1_Skip.mono _ _ _)
      | (with_reducible exact lex_Op.mono _ _ _)
      | (with_reducible exact lex_Reserved.mono _ _)
      | (with_reducible exact lex_Single.mono _ _ _)
      | (with_reducible exact lex_Skip.mono _ _ _)
      | (with_reducible exact LeO.refl _)
      | (with_reducible exact LeO.none _)
      | (with_reducible refine LeO.ite ?_ ?_)
      | (with_reducible refine LeO.bind ?_ (fun _ => ?_))
      | exact ih0 _ _ _ _
      | exact ih1 _ _ _ _ _
      | exact ih2 _ _ _ _ _ _ _ _ _ _ _
      | exact ih3 _ _ _ _ _ _ _ _ _ _ _
      | exact ih4 _ _ _ _ _ _ _ _ _ _ _ _
      | exact conchlaw9_awake.mono _
      | exact conchref1_Ends.mono _ _
      | exact conchref1_Op.mono _ _ _
      | exact conchref1_Skip.mono _ _ _
      | exact lex_Op.mono _ _ _
      | exact lex_Reserved.mono _ _
      | exact lex_Single.mono _ _ _
      | exact lex_Skip.mono _ _ _
      | exact LeO.none _
      | refine LeO.ite ?_ ?_
      | refine LeO.bind ?_ (fun _ => ?_)
    · intro y0 y1 y2 y3 y4
      unfold conchlaw9_LexTells.j1
      repeat' first
      | (with_reducible exact ih0 _ _ _ _)
      | (with_reducible exact ih1 _ _ _ _ _)
      | (with_reducible exact ih2 _ _ _ _ _ _ _ _ _ _ _)
      | (with_reducible exact ih3 _ _ _ _ _ _ _ _ _ _ _)
      | (with_reducible exact ih4 _ _ _ _ _ _ _ _ _ _ _ _)
      | (with_reducible exact conchlaw9_awake.mono _)
      | (with_reducible exact conchref1_Ends.mono _ _)
      | (with_reducible exact conchref1_Op.mono _ _ _)
      | (with_reducible exact conchref1_Skip.mono _ _ _)
      | (with_reducible exact lex_Op.mono _ _ _)
      | (with_reducible exact lex_Reserved.mono _ _)
      | (with_reducible exact lex_Single.mono _ _ _)
      | (with_reducible exact lex_Skip.mono _ _ _)
      | (with_reducible exact LeO.refl _)
      | (with_reducible exact LeO.none _)
      | (with_reducible refine LeO.ite ?_ ?_)
      | (with_reducible refine LeO.bind ?_ (fun _ => ?_))
      | exact ih0 _ _ _ _
      | exact ih1 _ _ _ _ _
      | exact ih2 _ _ _ _ _ _ _ _ _ _ _
      | exact ih3 _ _ _ _ _ _ _ _ _ _ _
      | exact ih4 _ _ _ _ _ _ _ _ _ _ _ _
      | exact conchlaw9_awake.mono _
      | exact conchref1_Ends.mono _ _
      | exact conchref1_Op.mono _ _ _
      | exact conchref1_Skip.mono _ _ _
      | exact lex_Op.mono _ _ _
      | exact lex_Reserved.mono _ _
      | exact lex_Single.mono _ _ _
      | exact lex_Skip.mono _ _ _
      | exact LeO.none _
      | refine LeO.ite ?_ ?_
      | refine LeO.bind ?_ (fun _ => ?_)
    · intro y0 y1 y2 y3 y4 y5 y6 y7 y8 y9 y10
      unfold conchlaw9_LexTells.j2
      repeat' first
      | (with_reducible exact ih0 _ _ _ _)
      | (with_reducible exact ih1 _ _ _ _ _)
      | (with_reducible exact ih2 _ _ _ _ _ _ _ _ _ _ _)
      | (with_reducible exact ih3 _ _ _ _ _ _ _ _ _ _ _)
      | (with_reducible exact ih4 _ _ _ _ _ _ _ _ _ _ _ _)
      | (with_reducible exact conchlaw9_awake.mono _)
      | (with_reducible exact conchref1_Ends.mono _ _)
      | (with_reducible exact conchref1_Op.mono _ _ _)
      | (with_reducible exact conchref1_Skip.mono _ _ _)
      | (with_reducible exact lex_Op.mono _ _ _)
      | (with_reducible exact lex_Reserved.mono _ _)
      | (with_reducible exact lex_Single.mono _ _ _)
      | (with_reducible exact lex_Skip.mono _ _ _)
      | (with_reducible exact LeO.refl _)
      | (with_reducible exact LeO.none _)
      | (with_reducible refine LeO.ite ?_ ?_)
      | (with_reducible refine LeO.bind ?_ (fun _ => ?_))
      | exact ih0 _ _ _ _
      | exact ih1 _ _ _ _ _
      | exact ih2 _ _ _ _ _ _ _ _ _ _ _
      | exact ih3 _ _ _ _ _ _ _ _ _ _ _
      | exact ih4 _ _ _ _ _ _ _ _ _ _ _ _
      | exact conchlaw9_awake.mono _
      | exact conchref1_Ends.mono _ _
      | exact conchref1_Op.mono _ _ _
      | exact conchref1_Skip.mono _ _ _
      | exact lex_Op.mono _ _ _
      | exact lex_Reserved.mono _ _
      | exact lex_Single.mono _ _ _
      | exact lex_Skip.mono _ _ _
      | exact LeO.none _
      | refine LeO.ite ?_ ?_
      | refine LeO.bind ?_ (fun _ => ?_)
    · intro y0 y1 y2 y3 y4 y5 y6 y7 y8 y9 y10
      unfold conchlaw9_LexTells.l1
      repeat' first
      | (with_reducible exact ih0 _ _ _ _)
      | (with_reducible exact ih1 _ _ _ _ _)
      | (with_reducible exact ih2 _ _ _ _ _ _ _ _ _ _ _)
      | (with_reducible exact ih3 _ _ _ _ _ _ _ _ _ _ _)
      | (with_reducible exact ih4 _ _ _ _ _ _ _ _ _ _ _ _)
      | (with_reducible exact conchlaw9_awake.mono _)
      | (with_reducible exact conchref1_Ends.mono _ _)
      | (with_reducible exact conchref1_Op.mono _ _ _)
      | (with_reducible exact conchref1_Skip.mono _ _ _)
      | (with_reducible exact lex_Op.mono _ _ _)
      | (with_reducible exact lex_Reserved.mono _ _)
      | (with_reducible exact lex_Single.mono _ _ _)
      | (with_reducible exact lex_Skip.mono _ _ _)
      | (with_reducible exact LeO.refl _)
      | (with_reducible exact LeO.none _)
      | (with_reducible refine LeO.ite ?_ ?_)
      | (with_reducible refine LeO.bind ?_ (fun _ => ?_))
      | exact ih0 _ _ _ _
      | exact ih1 _ _ _ _ _
      | exact ih2 _ _ _ _ _ _ _ _ _ _ _
      | exact ih3 _ _ _ _ _ _ _ _ _ _ _
      | exact ih4 _ _ _ _ _ _ _ _ _ _ _ _
      | exact conchlaw9_awake.mono _
      | exact conchref1_Ends.mono _ _
      | exact conchref1_Op.mono _ _ _
      | exact conchref1_Skip.mono _ _ _
      | exact lex_Op.mono _ _ _
      | exact lex_Reserved.mono _ _
      | exact lex_Single.mono _ _ _
      | exact lex_Skip.mono _ _ _
      | exact LeO.none _
      | refine LeO.ite ?_ ?_
      | refine LeO.bind ?_ (fun _ => ?_)
    · intro y0 y1 y2 y3 y4 y5 y6 y7 y8 y9 y10 y11
      unfold conchlaw9_LexTells.j4
      repeat' first
      | (with_reducible exact ih0 _ _ _ _)
      | (with_reducible exact ih1 _ _ _ _ _)
      | (with_reducible exact ih2 _ _ _ _ _ _ _ _ _ _ _)
      | (with_reducible exact ih3 _ _ _ _ _ _ _ _ _ _ _)
      | (with_reducible exact ih4 _ _ _ _ _ _ _ _ _ _ _ _)
      | (with_reducible exact conchlaw9_awake.mono _)
      | (with_reducible exact conchref1_Ends.mono _ _)
      | (with_reducible exact conchref1_Op.mono _ _ _)
      | (with_reducible exact conchref1_Skip.mono _ _ _)
      | (with_reducible exact lex_Op.mono _ _ _)
      | (with_reducible exact lex_Reserved.mono _ _)
      | (with_reducible exact lex_Single.mono _ _ _)
      | (with_reducible exact lex_Skip.mono _ _ _)
      | (with_reducible exact LeO.refl _)
      | (with_reducible exact LeO.none _)
      | (with_reducible refine LeO.ite ?_ ?_)
      | (with_reducible refine LeO.bind ?_ (fun _ => ?_))
      | exact ih0 _ _ _ _
      | exact ih1 _ _ _ _ _
      | exact ih2 _ _ _ _ _ _ _ _ _ _ _
      | exact ih3 _ _ _ _ _ _ _ _ _ _ _
      | exact ih4 _ _ _ _ _ _ _ _ _ _ _ _
      | exact conchlaw9_awake.mono _
      | exact conchref1_Ends.mono _ _
      | exact conchref1_Op.mono _ _ _
      | exact conchref1_Skip.mono _ _ _
      | exact lex_Op.mono _ _ _
      | exact lex_Reserved.mono _ _
      | exact lex_Single.mono _ _ _
      | exact lex_Skip.mono _ _ _
      | exact LeO.none _
      | refine LeO.ite ?_ ?_
      | refine LeO.bind ?_ (fun _ => ?_)
theorem conchlaw9_LexTells.mono : ∀ a0 a1 a2 k, LeO (conchlaw9_LexTells.f k a0 a1 a2) (conchlaw9_LexTells.f (k + 1) a0 a1 a2) := by
  intro a0 a1 a2 k
  obtain ⟨ih0, ih1, ih2, ih3, ih4⟩ := conchlaw9_LexTells.mono_l k
  unfold conchlaw9_LexTells.f
  repeat' first
      | (with_reducible exact ih0 _ _ _ _)
      | (with_reducible exact ih1 _ _ _ _ _)
      | (with_reducible exact ih2 _ _ _ _ _ _ _ _ _ _ _)
      | (with_reducible exact ih3 _ _ _ _ _ _ _ _ _ _ _)
      | (with_reducible exact ih4 _ _ _ _ _ _ _ _ _ _ _ _)
      | (with_reducible exact conchlaw9_awake.mono _)
      | (with_reducible exact conchref1_Ends.mono _ _)
      | (with_reducible exact conchref1_Op.mono _ _ _)
      | (with_reducible exact conchref1_Skip.mono _ _ _)
      | (with_reducible exact lex_Op.mono _ _ _)
      | (with_reducible exact lex_Reserved.mono _ _)
      | (with_reducible exact lex_Single.mono _ _ _)
      | (with_reducible exact lex_Skip.mono _ _ _)
      | (with_reducible exact LeO.refl _)
      | (with_reducible exact LeO.none _)
      | (with_reducible refine LeO.ite ?_ ?_)
      | (with_reducible refine LeO.bind ?_ (fun _ => ?_))
      | exact ih0 _ _ _ _
      | exact ih1 _ _ _ _ _
      | exact ih2 _ _ _ _ _ _ _ _ _ _ _
      | exact ih3 _ _ _ _ _ _ _ _ _ _ _
      | exact ih4 _ _ _ _ _ _ _ _ _ _ _ _
      | exact conchlaw9_awake.mono _
      | exact conchref1_Ends.mono _ _
      | exact conchref1_Op.mono _ _ _
      | exact conchref1_Skip.mono _ _ _
      | exact lex_Op.mono _ _ _
      | exact lex_Reserved.mono _ _
      | exact lex_Single.mono _ _ _
      | exact lex_Skip.mono _ _ _
      | exact LeO.none _
      | refine LeO.ite ?_ ?_
      | refine LeO.bind ?_ (fun _ => ?_)
set_option maxHeartbeats 8000000 in
set_option maxRecDepth 100000 in
theorem conchlaw9_LexTells.calls (k : Nat) (a0 : ByteArray) (a1 : Int) (a2 : Int) (r : Bool) (w : World) (h : conchlaw9_LexTells.f k a0 a1 a2 = some r) :
    Calls Try.prog 4 #[.string a0, .int .i64 a1, .int .u8 a2] w fun e w' => e = .returned (.bool r) ∧ Below w.heap.size w w' := by
  have HB := Aside0.mk (Below.refl w.heap.size w)
  have H : (if (a0.size : Int) > 300 then ((conchlaw9_awake.f k).bind fun t151 => (some t151)) else (conchlaw9_LexTells.l0 k a0 a1 a2 0)) = some r := h
  clear h
  by_cases c4 : (a0.size : Int) > 300
  · rw [if_pos c4] at H
    have c4b0 : decide (300 < (a0.size : Int)) = true := decide_eq_true c4
    have c4b1 : decide (300 < a0.size) = true := decide_eq_true (by omega)
    clear c4
    replace H := Option.bind_eq_some_iff.mp H
    obtain ⟨t151, A50, H⟩ := H
    replace H : (some t151) = some r := H
    have A5 := Aside0.mk A50
    clear A50
    obtain rfl := Option.some.inj H
    go_enter Try.func4, Try.ntmps4
    go_wp2_with (first | ((with_reducible refine gate_callee (f := 10) rfl ?_); refine goesL_ (some 22) rfl rfl Try.func10 (by kernel_rfl) rfl #[] rfl (by (try simp only [List.map_toArray, List.map_cons, List.map_nil]); first | done | rfl | (simp only [List.length_drop, List.length_take]; rfl)) ?_; (with_reducible refine (conchlaw9_awake.calls k  t151 _ A5.out).mono ?_); rintro e w6 ⟨rfl, hb⟩; refine ⟨_, rfl, ?_⟩; have n0_ := Aside0.mk (below_step (by repeat (first | (with_reducible first | exact HB.out | apply below_alloc | apply pw_below_drewN | apply below_drew1) | exact HB.out)) hb); clear HB; have HB := n0_; clear n0_; (try clear hb); (try clear hb2); (try clear hk); (try clear hi)))
    go_ret
    exact ⟨by first | rfl | (simp [errW_none, errW_some] <;> rfl) | (simp [*, errW_none, errW_some] <;> rfl), by repeat (first | (with_reducible first | exact HB.out | apply below_alloc | apply pw_below_drewN | apply below_drew1) | exact HB.out)⟩
  · rw [if_neg c4] at H
    have c4b0 : decide (300 < (a0.size : Int)) = false := decide_eq_false c4
    have c4b1 : decide (300 < a0.size) = false := decide_eq_false (by omega)
    clear c4
    have H' := Aside0.mk H
    clear H
    go_enter Try.func4, Try.ntmps4
    go_wp2
    go_loopg [1, 7] k (fun kq v1 v7 w' => ∃ (x1_1 : Int) (x7_1 : Int), v1 = .int .i64 x1_1 ∧ v7 = .int .i64 x7_1 ∧ Aside0 (conchlaw9_LexTells.l0 kq a0 x1_1 a2 x7_1 = some r) ∧ Aside0 (kq ≤ k) ∧ Aside0 (Below w.heap.size w w'))
    case atStart => exact ⟨(a1), (0), (by first | rfl | (simp; done) | (simp [*]; done)), (by first | rfl | (simp; done) | (simp [*]; done)), H', ⟨Nat.le_refl _⟩, ⟨by repeat (first | (with_reducible first | exact HB.out | apply below_alloc | apply pw_below_drewN | apply below_drew1) | exact HB.out)⟩⟩
    case round =>
      clear H'
      try clear c1
      try clear p2
      try clear c4
      try clear c4b0
      try clear c4b1
      obtain ⟨x1_1, x7_1, rfl, rfl, HA, HK1, HB⟩ := hrel
      cases gk with
      | zero => exact absurd HA.out (by simp [conchlaw9_LexTells.l0])
      | succ k1 =>
        have H := HA.out
        clear HA
        simp only [conchlaw9_LexTells.l0] at H
        by_cases c7 : x7_1 < 2
        · rw [if_pos c7] at H
          have c7b0 : decide (x7_1 < 2) = true := decide_eq_true c7
          clear c7
          replace H := Option.bind_eq_some_iff.mp H
          obtain ⟨⟨t152, t153⟩, A80, H⟩ := H
          replace H : ((conchref1_Op.f k1 a0 x1_1).bind fun bt154 => (if t152.toList = bt154.1.toList then (if (t153 != bt154.2) = true then (conchlaw9_LexTells.j1 k1 a0 x1_1 a2 x7_1 true) else ((lex_Skip.f k1 a0 x1_1).bind fun t156 => ((conchref1_Skip.f k1 a0 x1_1).bind fun t157 => (conchlaw9_LexTells.j1 k1 a0 x1_1 a2 x7_1 (t156 != t157))))) else (conchlaw9_LexTells.j1 k1 a0 x1_1 a2 x7_1 true))) = some r := H
          have A8 := Aside0.mk A80
          clear A80
          replace H := Option.bind_eq_some_iff.mp H
          obtain ⟨⟨t154, t155⟩, A90, H⟩ := H
          replace H : (if t152.toList = t154.toList then (if (t153 != t155) = true then (conchlaw9_LexTells.j1 k1 a0 x1_1 a2 x7_1 true) else ((lex_Skip.f k1 a0 x1_1).bind fun t156 => ((conchref1_Skip.f k1 a0 x1_1).bind fun t157 => (conchlaw9_LexTells.j1 k1 a0 x1_1 a2 x7_1 (t156 != t157))))) else (conchlaw9_LexTells.j1 k1 a0 x1_1 a2 x7_1 true)) = some r := H
          have A9 := Aside0.mk A90
          clear A90
          have HC10 := Aside0.mk H
          clear H
          go_upto_region 8 with (first | ((with_reducible refine gate_callee (f := 8) rfl ?_); refine goesL_ (some 30) rfl rfl Try.func8 (by kernel_rfl) rfl #[.string a0, .int .i64 x1_1] rfl (by (try simp only [List.map_toArray, List.map_cons, List.map_nil]); first | done | rfl | (simp only [List.length_drop, List.length_take]; rfl)) ?_; (with_reducible refine (lex_Op.calls k1 a0 x1_1 t152 t153 _ A8.out).mono ?_); rintro e w11 ⟨rfl, hb⟩; refine ⟨_, rfl, ?_⟩; have n0_ := Aside0.mk (below_step (by repeat (first | (with_reducible first | exact HB.out | apply below_alloc | apply pw_below_drewN | apply below_drew1) | exact HB.out)) hb); clear HB; have HB := n0_; clear n0_; (try clear hb); (try clear hb2); (try clear hk); (try clear hi)) | ((with_reducible refine gate_callee (f := 11) rfl ?_); refine goesL_ (some 36) rfl rfl Try.func11 (by kernel_rfl) rfl #[.string a0, .int .i64 x1_1] rfl (by (try simp only [List.map_toArray, List.map_cons, List.map_nil]); first | done | rfl | (simp only [List.length_drop, List.length_take]; rfl)) ?_; (with_reducible refine (conchref1_Op.calls k1 a0 x1_1 t154 t155 _ A9.out).mono ?_); rintro e w' ⟨rfl, ⟨nd, rfl⟩⟩; refine ⟨_, rfl, ?_⟩))
          (try simp only [Act.put, List.setIfInBounds_toArray, List.set_cons_zero, List.set_cons_succ])
          go_cut [55] (fun v55 wc => ∃ (kq : Nat) (x55_9 : Bool), v55 = .bool x55_9 ∧ Aside0 (conchlaw9_LexTells.j1 kq a0 x1_1 a2 x7_1 x55_9 = some r) ∧ Aside0 (kq ≤ k1) ∧ Aside0 (Below w.heap.size w wc))
          case first =>
            have H := HC10.out
            clear HC10
            by_cases c12 : t152.toList = t154.toList
            · rw [if_pos c12] at H
              have c12b0 : (t152.toList == t154.toList) = true := beq_iff_eq.mpr c12
              have c12b1 : (t152.toList != t154.toList) = false := bne_eq_false_iff_eq.mpr c12
              clear c12
              (first | rw [c12b0] | (simp only [i64_w, i32_w]; rw [c12b0]) | skip)
              by_cases c13 : (t153 != t155) = true
              · rw [if_pos c13] at H
                have c13b0 : (t153 != t155) = true := c13
                (try (have c13b1 : decide (t153 = t155) = false := by simpa using c13))
                (try (have c13b2 : (t153 == t155) = false := by simpa using c13))
                (try (have c13b3 : ¬ (t153 = t155) := by simpa using c13))
                clear c13
                have H' := Aside0.mk H
                clear H
                go_wp2
                go_meet
                case rel => exact ⟨_, (true), (by first | rfl | (simp; done) | (simp [*]; done)), H', ⟨by have := HK1.out; first | omega | exact Nat.le_refl _⟩, ⟨by repeat (first | (with_reducible first | exact HB.out | apply below_alloc | apply pw_below_drewN | apply below_drew1) | exact HB.out)⟩⟩
              · rw [if_neg c13] at H
                have c13b0 : (t153 != t155) = false := by simpa using c13
                (try (have c13b1 : decide (t153 = t155) = true := by simpa using c13))
                (try (have c13b2 : (t153 == t155) = true := by simpa using c13))
                clear c13
                replace H := Option.bind_eq_some_iff.mp H
                obtain ⟨t156, A140, H⟩ := H
                replace H : ((conchref1_Skip.f k1 a0 x1_1).bind fun t157 => (conchlaw9_LexTells.j1 k1 a0 x1_1 a2 x7_1 (t156 != t157))) = some r := H
                have A14 := Aside0.mk A140
                clear A140
                replace H := Option.bind_eq_some_iff.mp H
                obtain ⟨t157, A150, H⟩ := H
                replace H : (conchlaw9_LexTells.j1 k1 a0 x1_1 a2 x7_1 (t156 != t157)) = some r := H
                have A15 := Aside0.mk A150
                clear A150
                have H' := Aside0.mk H
                clear H
                go_wp2_with (first | (go_at_call 12; (with_reducible refine (lex_Skip.calls k1 a0 x1_1 t156 _ A14.out).mono ?_); rintro e w16 ⟨rfl, hb⟩; have n0_ := Aside0.mk (below_step (by repeat (first | (with_reducible first | exact HB.out | apply below_alloc | apply pw_below_drewN | apply below_drew1) | exact HB.out)) hb); clear HB; have HB := n0_; clear n0_; (try clear hb); (try clear hb2); (try clear hk); (try clear hi)) | (go_at_call 13; (with_reducible refine (conchref1_Skip.calls k1 a0 x1_1 t157 _ A15.out).mono ?_); rintro e w17 ⟨rfl, hb⟩; have n0_ := Aside0.mk (below_step (by repeat (first | (with_reducible first | exact HB.out | apply below_alloc | apply pw_below_drewN | apply below_drew1) | exact HB.out)) hb); clear HB; have HB := n0_; clear n0_; (try clear hb); (try clear hb2); (try clear hk); (try clear hi)))
                go_meet
                case rel => exact ⟨_, ((t156 != t157)), (by first | rfl | (simp; done) | (simp [*]; done)), H', ⟨by have := HK1.out; first | omega | exact Nat.le_refl _⟩, ⟨by repeat (first | (with_reducible first | exact HB.out | apply below_alloc | apply pw_below_drewN | apply below_drew1) | exact HB.out)⟩⟩
            · rw [if_neg c12] at H
              have c12b0 : (t152.toList == t154.toList) = false := beq_eq_false_iff_ne.mpr c12
              have c12b1 : (t152.toList != t154.toList) = true := bne_iff_ne.mpr c12
              (first | rw [c12b0] | (simp only [i64_w, i32_w]; rw [c12b0]) | skip)
              have H' := Aside0.mk H
              clear H
              go_wp2
              go_meet
              case rel => exact ⟨_, (true), (by first | rfl | (simp; done) | (simp [*]; done)), H', ⟨by have := HK1.out; first | omega | exact Nat.le_refl _⟩, ⟨by repeat (first | (with_reducible first | exact HB.out | apply below_alloc | apply pw_below_drewN | apply below_drew1) | exact HB.out)⟩⟩
          case rest =>
            clear HC10
            try clear c1
            try clear p2
            try clear c4
            try clear c4b0
            try clear c4b1
            try clear c7
            try clear c7b0
            try clear c8
            try clear c10
            try clear c11
            try clear c12
            try clear c12b0
            try clear c12b1
            try clear c13
            try clear c13b0
            try clear c13b1
            try clear c13b2
            try clear p2
            obtain ⟨kq, x55_9, rfl, HA, HJ9, HB⟩ := hcut
            cases kq with
            | zero => exact absurd HA.out (by simp [conchlaw9_LexTells.j1])
            | succ kj9 =>
              have H := HA.out
              clear HA
              simp only [conchlaw9_LexTells.j1] at H
              by_cases c18 : x55_9 = true
              · subst c18
                have H1 : (some false) = some r := by rw [if_pos rfl] at H; exact H
                clear H
                have H := H1
                clear H1
                obtain rfl := Option.some.inj H
                go_wp2
                go_ret
                exact ⟨by first | rfl | (simp [errW_none, errW_some] <;> rfl) | (simp [*, errW_none, errW_some] <;> rfl), by repeat (first | (with_reducible first | exact HB.out | apply below_alloc | apply pw_below_drewN | apply below_drew1) | exact HB.out)⟩
              · replace c18 := Bool.eq_false_iff.mpr c18
                subst c18
                have H1 : ((lex_Single.f kj9 a0 x1_1).bind fun bt158 => (if x1_1 ≥ 0 then (if x1_1 < (a0.size : Int) then (if 0 ≤ x1_1 then (conchlaw9_LexTells.j2 kj9 a0 x1_1 a2 x7_1 bt158.1 bt158.2.1 bt158.2.2 (⟨#[]⟩ : ByteArray) 0 false ((bt a0 x1_1) == 39)) else (none)) else (conchlaw9_LexTells.j2 kj9 a0 x1_1 a2 x7_1 bt158.1 bt158.2.1 bt158.2.2 (⟨#[]⟩ : ByteArray) 0 false false)) else (conchlaw9_LexTells.j2 kj9 a0 x1_1 a2 x7_1 bt158.1 bt158.2.1 bt158.2.2 (⟨#[]⟩ : ByteArray) 0 false false))) = some r := by rw [if_neg (show ¬ (false = true) by decide)] at H; exact H
                clear H
                have H := H1
                clear H1
                replace H := Option.bind_eq_some_iff.mp H
                obtain ⟨⟨t158, t159, t160⟩, A190, H⟩ := H
                replace H : (if x1_1 ≥ 0 then (if x1_1 < (a0.size : Int) then (if 0 ≤ x1_1 then (conchlaw9_LexTells.j2 kj9 a0 x1_1 a2 x7_1 t158 t159 t160 (⟨#[]⟩ : ByteArray) 0 false ((bt a0 x1_1) == 39)) else (none)) else (conchlaw9_LexTells.j2 kj9 a0 x1_1 a2 x7_1 t158 t159 t160 (⟨#[]⟩ : ByteArray) 0 false false)) else (conchlaw9_LexTells.j2 kj9 a0 x1_1 a2 x7_1 t158 t159 t160 (⟨#[]⟩ : ByteArray) 0 false false)) = some r := H
                have A19 := Aside0.mk A190
                clear A190
                have HC20 := Aside0.mk H
                clear H
                go_upto_region 12 with (first | ((with_reducible refine gate_callee (f := 14) rfl ?_); refine goesL_ (some 59) rfl rfl Try.func14 (by kernel_rfl) rfl #[.string a0, .int .i64 x1_1] rfl (by (try simp only [List.map_toArray, List.map_cons, List.map_nil]); first | done | rfl | (simp only [List.length_drop, List.length_take]; rfl)) ?_; (with_reducible refine (lex_Single.calls kj9 a0 x1_1 t158 t159 t160 _ A19.out).mono ?_); rintro e w' ⟨rfl, ⟨nd, rfl⟩⟩; refine ⟨_, rfl, ?_⟩))
                (try simp only [Act.put, List.setIfInBounds_toArray, List.set_cons_zero, List.set_cons_succ])
                go_cut [76] (fun v76 wc => ∃ (kq : Nat) (x76_19 : Bool), v76 = .bool x76_19 ∧ Aside0 (conchlaw9_LexTells.j2 kq a0 x1_1 a2 x7_1 t158 t159 t160 (⟨#[]⟩ : ByteArray) 0 false x76_19 = some r) ∧ Aside0 (kq ≤ kj9) ∧ Aside0 (Below w.heap.size w wc))
                case first =>
                  have H := HC20.out
                  clear HC20
                  by_cases c21 : x1_1 ≥ 0
                  · rw [if_pos c21] at H
                    have c21b0 : decide (0 ≤ x1_1) = true := decide_eq_true c21
                    clear c21
                    (first | rw [c21b0] | (simp only [i64_w, i32_w]; rw [c21b0]) | skip)
                    by_cases c22 : x1_1 < (a0.size : Int)
                    · rw [if_pos c22] at H
                      have c22b0 : decide (x1_1 < (a0.size : Int)) = true := decide_eq_true c22
                      clear c22
                      by_cases c23 : 0 ≤ x1_1
                      · rw [if_pos c23] at H
                        have c23b0 : decide (0 ≤ x1_1) = true := decide_eq_true c23
                        clear c23
                        have H' := Aside0.mk H
                        clear H
                        have p24 : 0 ≤ (x1_1 : Int) := of_decide_eq_true (by first | (with_reducible assumption) | assumption)
                        have q24 : x1_1 < (a0.size : Int) := of_decide_eq_true (by first | (with_reducible assumption) | assumption)
                        have hx24 := bt_at a0 x1_1
                        replace p24 := eq_true p24
                        replace q24 := eq_true q24
                        go_wp2
                        go_meet
                        case rel => exact ⟨_, (((bt a0 x1_1) == 39)), (by first | rfl | (simp; done) | (simp [*]; done)), H', ⟨by have := HK1.out; have := HJ9.out; first | omega | exact Nat.le_refl _⟩, ⟨by repeat (first | (with_reducible first | exact HB.out | apply below_alloc | apply pw_below_drewN | apply below_drew1) | exact HB.out)⟩⟩
                      · rw [if_neg c23] at H
                        exact absurd H (by simp)
                    · rw [if_neg c22] at H
                      have c22b0 : decide (x1_1 < (a0.size : Int)) = false := decide_eq_false c22
                      clear c22
                      have H' := Aside0.mk H
                      clear H
                      go_wp2
                      go_meet
                      case rel => exact ⟨_, (false), (by first | rfl | (simp; done) | (simp [*]; done)), H', ⟨by have := HK1.out; have := HJ9.out; first | omega | exact Nat.le_refl _⟩, ⟨by repeat (first | (with_reducible first | exact HB.out | apply below_alloc | apply pw_below_drewN | apply below_drew1) | exact HB.out)⟩⟩
                  · rw [if_neg c21] at H
                    have c21b0 : decide (0 ≤ x1_1) = false := decide_eq_false c21
                    clear c21
                    (first | rw [c21b0] | (simp only [i64_w, i32_w]; rw [c21b0]) | skip)
                    have H' := Aside0.mk H
                    clear H
                    go_wp2
                    go_meet
                    case rel => exact ⟨_, (false), (by first | rfl | (simp; done) | (simp [*]; done)), H', ⟨by have := HK1.out; have := HJ9.out; first | omega | exact Nat.le_refl _⟩, ⟨by repeat (first | (with_reducible first | exact HB.out | apply below_alloc | apply pw_below_drewN | apply below_drew1) | exact HB.out)⟩⟩
                case rest =>
                  clear HC20
                  try clear c1
                  try clear c2
                  try clear p2
                  try clear q2
                  try clear hx2
                  try clear c4
                  try clear c4b0
                  try clear c4b1
                  try clear c7
                  try clear c7b0
                  try clear c8
                  try clear c10
                  try clear c11
                  try clear c12
                  try clear c12b0
                  try clear c12b1
                  try clear c13
                  try clear c13b0
                  try clear c13b1
                  try clear c13b2
                  try clear c14
                  try clear c18
                  try clear c21
                  try clear c21b0
                  try clear c22
                  try clear c22b0
                  try clear c23
                  try clear c23b0
                  try clear p24
                  try clear q24
                  try clear hx24
                  try clear p2
                  try clear p24
                  try clear q24
                  obtain ⟨kq, x76_19, rfl, HA, HJ19, HB⟩ := hcut
                  cases kq with
                  | zero => exact absurd HA.out (by simp [conchlaw9_LexTells.j2])
                  | succ kj19 =>
                    have H := HA.out
                    clear HA
                    simp only [conchlaw9_LexTells.j2] at H
                    by_cases c25 : x76_19 = true
                    · subst c25
                      have H1 : (conchlaw9_LexTells.l1 kj19 a0 x1_1 a2 x7_1 t158 t159 t160 (⟨#[]⟩ : ByteArray) 0 false (wrap64 (x1_1 + 1))) = some r := by rw [if_pos rfl] at H; exact H
                      clear H
                      have H := H1
                      clear H1
                      have H' := Aside0.mk H
                      clear H
                      go_wp2
                      go_loopg [15, 16, 17, 18] kj19 (fun kq v15 v16 v17 v18 w' => ∃ (x15_4 : ByteArray) (x16_4 : Int) (x17_4 : Bool) (x18_4 : Int), v15 = .string x15_4 ∧ v16 = .int .i64 x16_4 ∧ v17 = .bool x17_4 ∧ v18 = .int .i64 x18_4 ∧ Aside0 (conchlaw9_LexTells.l1 kq a0 x1_1 a2 x7_1 t158 t159 t160 x15_4 x16_4 x17_4 x18_4 = some r) ∧ Aside0 (kq ≤ kj19) ∧ Aside0 (Below w.heap.size w w'))
                      case atStart => exact ⟨((⟨#[]⟩ : ByteArray)), (0), (false), (wrap64 (x1_1 + 1)), (by first | rfl | (simp; done) | (simp [*]; done)), (by first | rfl | (simp; done) | (simp [*]; done)), (by first | rfl | (simp; done) | (simp [*]; done)), (by first | rfl | (simp; done) | (simp [*]; done)), H', ⟨Nat.le_refl _⟩, ⟨by repeat (first | (with_reducible first | exact HB.out | apply below_alloc | apply pw_below_drewN | apply below_drew1) | exact HB.out)⟩⟩
                      case round =>
                        clear H'
                        try clear c1
                        try clear c2
                        try clear p2
                        try clear q2
                        try clear hx2
                        try clear c4
                        try clear c4b0
                        try clear c4b1
                        try clear p6
                        try clear c7
                        try clear c7b0
                        try clear c8
                        try clear c10
                        try clear c11
                        try clear c12
                        try clear c12b0
                        try clear c12b1
                        try clear c13
                        try clear c13b0
                        try clear c13b1
                        try clear c13b2
                        try clear c14
                        try clear c18
                        try clear c21
                        try clear c21b0
                        try clear c22
                        try clear c22b0
                        try clear c23
                        try clear c23b0
                        try clear p24
                        try clear q24
                        try clear hx24
                        try clear c25
                        try clear p2
                        try clear p24
                        try clear q2
                        try clear q24
                        obtain ⟨x15_4, x16_4, x17_4, x18_4, rfl, rfl, rfl, rfl, HA, HK4, HB⟩ := hrel
                        cases gk with
                        | zero => exact absurd HA.out (by simp [conchlaw9_LexTells.l1])
                        | succ k4 =>
                          have H := HA.out
                          clear HA
                          simp only [conchlaw9_LexTells.l1] at H
                          have HC26 := Aside0.mk H
                          clear H
                          go_upto_region 14 with (fail)
                          go_cut [86] (fun v86 wc => ∃ (kq : Nat) (x86_25 : Bool), v86 = .bool x86_25 ∧ Aside0 (conchlaw9_LexTells.j4 kq a0 x1_1 a2 x7_1 t158 t159 t160 x15_4 x16_4 x17_4 x18_4 x86_25 = some r) ∧ Aside0 (kq ≤ k4) ∧ Aside0 (Below w.heap.size w wc))
                          case first =>
                            have H := HC26.out
                            clear HC26
                            by_cases c27 : x18_4 < (a0.size : Int)
                            · rw [if_pos c27] at H
                              have c27b0 : decide (x18_4 < (a0.size : Int)) = true := decide_eq_true c27
                              clear c27
                              (first | rw [c27b0] | (simp only [i64_w, i32_w]; rw [c27b0]) | skip)
                              have H' := Aside0.mk H
                              clear H
                              go_wp2
                              go_meet
                              case rel => exact ⟨_, (!x17_4), (by first | rfl | (simp; done) | (simp [*]; done)), H', ⟨by have := HK1.out; have := HJ9.out; have := HJ19.out; have := HK4.out; first | omega | exact Nat.le_refl _⟩, ⟨by repeat (first | (with_reducible first | exact HB.out | apply below_alloc | apply pw_below_drewN | apply below_drew1) | exact HB.out)⟩⟩
                            · rw [if_neg c27] at H
                              have c27b0 : decide (x18_4 < (a0.size : Int)) = false := decide_eq_false c27
                              clear c27
                              (first | rw [c27b0] | (simp only [i64_w, i32_w]; rw [c27b0]) | skip)
                              have H' := Aside0.mk H
                              clear H
                              go_wp2
                              go_meet
                              case rel => exact ⟨_, (false), (by first | rfl | (simp; done) | (simp [*]; done)), H', ⟨by have := HK1.out; have := HJ9.out; have := HJ19.out; have := HK4.out; first | omega | exact Nat.le_refl _⟩, ⟨by repeat (first | (with_reducible first | exact HB.out | apply below_alloc | apply pw_below_drewN | apply below_drew1) | exact HB.out)⟩⟩
                          case rest =>
                            clear HC26
                            try clear c1
                            try clear c2
                            try clear p2
                            try clear q2
                            try clear hx2
                            try clear c4
                            try clear c4b0
                            try clear c4b1
                            try clear p6
                            try clear c7
                            try clear c7b0
                            try clear c8
                            try clear c10
                            try clear c11
                            try clear c12
                            try clear c12b0
                            try clear c12b1
                            try clear c13
                            try clear c13b0
                            try clear c13b1
                            try clear c13b2
                            try clear c14
                            try clear c18
                            try clear c21
                            try clear c21b0
                            try clear c22
                            try clear c22b0
                            try clear c23
                            try clear c23b0
                            try clear p24
                            try clear q24
                            try clear hx24
                            try clear c25
                            try clear c27
                            try clear c27b0
                            try clear p2
                            try clear p24
                            try clear p6
                            try clear q2
                            try clear q24
                            obtain ⟨kq, x86_25, rfl, HA, HJ25, HB⟩ := hcut
                            cases kq with
                            | zero => exact absurd HA.out (by simp [conchlaw9_LexTells.j4])
                            | succ kj25 =>
                              have H := HA.out
                              clear HA
                              simp only [conchlaw9_LexTells.j4] at H
                              by_cases c28 : x86_25 = true
                              · subst c28
                                have H1 : (if 0 ≤ x18_4 then (if x18_4 < (a0.size : Int) then (if (bt a0 x18_4) = 39 then (if 0 ≤ (wrap64 (x1_1 + 1)) then (if (wrap64 (x1_1 + 1)) ≤ x18_4 then (if x18_4 ≤ (a0.size : Int) then (conchlaw9_LexTells.l1 kj25 a0 x1_1 a2 x7_1 t158 t159 t160 (a0.extract ((wrap64 (x1_1 + 1)) : Int).toNat (x18_4 : Int).toNat) (wrap64 (x18_4 + 1)) true (wrap64 (x18_4 + 1))) else (none)) else (none)) else (none)) else (conchlaw9_LexTells.l1 kj25 a0 x1_1 a2 x7_1 t158 t159 t160 x15_4 x16_4 x17_4 (wrap64 (x18_4 + 1)))) else (none)) else (none)) = some r := by rw [if_pos rfl] at H; exact H
                                clear H
                                have H := H1
                                clear H1
                                by_cases c29 : 0 ≤ x18_4
                                · rw [if_pos c29] at H
                                  have c29b0 : decide (0 ≤ x18_4) = true := decide_eq_true c29
                                  clear c29
                                  by_cases c30 : x18_4 < (a0.size : Int)
                                  · rw [if_pos c30] at H
                                    have c30b0 : decide (x18_4 < (a0.size : Int)) = true := decide_eq_true c30
                                    clear c30
                                    by_cases c32 : (bt a0 x18_4) = 39
                                    · rw [if_pos c32] at H
                                      have c32b0 : ((bt a0 x18_4) == 39) = true := beq_iff_eq.mpr c32
                                      have c32b1 : ((bt a0 x18_4) != 39) = false := bne_eq_false_iff_eq.mpr c32
                                      clear c32
                                      obtain ⟨ji33, hji33⟩ : ∃ j_ : Int, (wrap64 (x1_1 + 1)) = j_ := ⟨_, rfl⟩
                                      replace H : (if 0 ≤ (ji33) then (if (ji33) ≤ x18_4 then (if x18_4 ≤ (a0.size : Int) then (conchlaw9_LexTells.l1 kj25 a0 x1_1 a2 x7_1 t158 t159 t160 (a0.extract ((ji33) : Int).toNat (x18_4 : Int).toNat) (wrap64 (x18_4 + 1)) true (wrap64 (x18_4 + 1))) else (none)) else (none)) else (none)) = some r := by first | (rw [hji33] at H; exact H) | (simp only [hji33] at H ⊢; exact H)
                                      have hji33w : (IntKind.i64.wrap (x1_1 + 1)) = ji33 := (i64_w _).trans hji33
                                      by_cases c34 : 0 ≤ (ji33)
                                      · rw [if_pos c34] at H
                                        have c34b0 := eq_true c34
                                        have c34b1 : decide (0 ≤ (ji33)) = true := decide_eq_true c34
                                        clear c34
                                        by_cases c35 : (ji33) ≤ x18_4
                                        · rw [if_pos c35] at H
                                          have c35b0 := eq_true c35
                                          have c35b1 : decide ((ji33) ≤ x18_4) = true := decide_eq_true c35
                                          clear c35
                                          by_cases c36 : x18_4 ≤ (a0.size : Int)
                                          · rw [if_pos c36] at H
                                            have c36b0 := eq_true c36
                                            have c36b1 : decide (x18_4 ≤ (a0.size : Int)) = true := decide_eq_true c36
                                            clear c36
                                            have H' := Aside0.mk H
                                            clear H
                                            have p31 : 0 ≤ (x18_4 : Int) := of_decide_eq_true (by first | (with_reducible assumption) | assumption)
                                            have q31 : x18_4 < (a0.size : Int) := of_decide_eq_true (by first | (with_reducible assumption) | assumption)
                                            have hx31 := bt_at a0 x18_4
                                            replace p31 := eq_true p31
                                            replace q31 := eq_true q31
                                            go_wp2
                                            go_roundg kj25
                                            case measure => have := HK1.out; have := HJ9.out; have := HJ19.out; have := HK4.out; have := HJ25.out; omega
                                            case rel => exact ⟨(a0.extract ((ji33) : Int).toNat (x18_4 : Int).toNat), (wrap64 (x18_4 + 1)), (true), (wrap64 (x18_4 + 1)), (by first | rfl | (simp; done) | (simp only [← hji33] <;> (first | rfl | simp)) | (simp [*]; done)), (by first | rfl | (simp; done) | (simp [*]; done)), (by first | rfl | (simp; done) | (simp [*]; done)), (by first | rfl | (simp; done) | (simp [*]; done)), H', ⟨by have := HK1.out; have := HJ9.out; have := HJ19.out; have := HK4.out; have := HJ25.out; omega⟩, ⟨by repeat (first | (with_reducible first | exact HB.out | apply below_alloc | apply pw_below_drewN | apply below_drew1) | exact HB.out)⟩⟩
                                          · rw [if_neg c36] at H
                                            exact absurd H (by simp)
                                        · rw [if_neg c35] at H
                                          exact absurd H (by simp)
                                      · rw [if_neg c34] at H
                                        exact absurd H (by simp)
                                    · rw [if_neg c32] at H
                                      have c32b0 : ((bt a0 x18_4) == 39) = false := beq_eq_false_iff_ne.mpr c32
                                      have c32b1 : ((bt a0 x18_4) != 39) = true := bne_iff_ne.mpr c32
                                      have H' := Aside0.mk H
                                      clear H
                                      have p31 : 0 ≤ (x18_4 : Int) := of_decide_eq_true (by first | (with_reducible assumption) | assumption)
                                      have q31 : x18_4 < (a0.size : Int) := of_decide_eq_true (by first | (with_reducible assumption) | assumption)
                                      have hx31 := bt_at a0 x18_4
                                      replace p31 := eq_true p31
                                      replace q31 := eq_true q31
                                      go_wp2
                                      go_roundg kj25
                                      case measure => have := HK1.out; have := HJ9.out; have := HJ19.out; have := HK4.out; have := HJ25.out; omega
                                      case rel => exact ⟨(x15_4), (x16_4), (x17_4), (wrap64 (x18_4 + 1)), (by first | rfl | (simp; done) | (simp [*]; done)), (by first | rfl | (simp; done) | (simp [*]; done)), (by first | rfl | (simp; done) | (simp [*]; done)), (by first | rfl | (simp; done) | (simp [*]; done)), H', ⟨by have := HK1.out; have := HJ9.out; have := HJ19.out; have := HK4.out; have := HJ25.out; omega⟩, ⟨by repeat (first | (with_reducible first | exact HB.out | apply below_alloc | apply pw_below_drewN | apply below_drew1) | exact HB.out)⟩⟩
                                  · rw [if_neg c30] at H
                                    exact absurd H (by simp)
                                · rw [if_neg c29] at H
                                  exact absurd H (by simp)
                              · replace c28 := Bool.eq_false_iff.mpr c28
                                subst c28
                                have H1 : (if t158.toList = x15_4.toList then (if t159 = x16_4 then (if (t160 != x17_4) = true then (some false) else (if (wrap64 ((a0.size : Int) + 1)) = 0 then (none) else (conchlaw9_LexTells.l0 kj25 a0 (Int.tmod (Go.bits .and .i64 x1_1 65535) (wrap64 ((a0.size : Int) + 1))) a2 (wrap64 (x7_1 + 1))))) else (some false)) else (some false)) = some r := by rw [if_neg (show ¬ (false = true) by decide)] at H; exact H
                                clear H
                                have H := H1
                                clear H1
                                by_cases c37 : t158.toList = x15_4.toList
                                · rw [if_pos c37] at H
                                  have c37b0 : (t158.toList == x15_4.toList) = true := beq_iff_eq.mpr c37
                                  have c37b1 : (t158.toList != x15_4.toList) = false := bne_eq_false_iff_eq.mpr c37
                                  clear c37
                                  by_cases c38 : t159 = x16_4
                                  · rw [if_pos c38] at H
                                    have c38b0 : (t159 == x16_4) = true := beq_iff_eq.mpr c38
                                    have c38b1 : (t159 != x16_4) = false := bne_eq_false_iff_eq.mpr c38
                                    clear c38
                                    by_cases c39 : (t160 != x17_4) = true
                                    · rw [if_pos c39] at H
                                      have c39b0 : (t160 != x17_4) = true := c39
                                      (try (have c39b1 : decide (t160 = x17_4) = false := by simpa using c39))
                                      (try (have c39b2 : (t160 == x17_4) = false := by simpa using c39))
                                      (try (have c39b3 : ¬ (t160 = x17_4) := by simpa using c39))
                                      clear c39
                                      obtain rfl := Option.some.inj H
                                      go_wp2
                                      go_ret
                                      exact ⟨by first | rfl | (simp [errW_none, errW_some] <;> rfl) | (simp [*, errW_none, errW_some] <;> rfl), by repeat (first | (with_reducible first | exact HB.out | apply below_alloc | apply pw_below_drewN | apply below_drew1) | exact HB.out)⟩
                                    · rw [if_neg c39] at H
                                      have c39b0 : (t160 != x17_4) = false := by simpa using c39
                                      (try (have c39b1 : decide (t160 = x17_4) = true := by simpa using c39))
                                      (try (have c39b2 : (t160 == x17_4) = true := by simpa using c39))
                                      clear c39
                                      by_cases c40 : (wrap64 ((a0.size : Int) + 1)) = 0
                                      · rw [if_pos c40] at H
                                        exact absurd H (by simp)
                                      · rw [if_neg c40] at H
                                        have c40b0 : ((wrap64 ((a0.size : Int) + 1)) == 0) = false := beq_eq_false_iff_ne.mpr c40
                                        have c40b1 : ((wrap64 ((a0.size : Int) + 1)) != 0) = true := bne_iff_ne.mpr c40
                                        have H' := Aside0.mk H
                                        clear H
                                        go_wp2
                                        go_roundg kj25
                                        case measure => have := HK1.out; have := HJ9.out; have := HJ19.out; have := HK4.out; have := HJ25.out; omega
                                        case rel => exact ⟨(Int.tmod (Go.bits .and .i64 x1_1 65535) (wrap64 ((a0.size : Int) + 1))), (wrap64 (x7_1 + 1)), (by first | rfl | (simp; done) | (simp [*]; done)), (by first | rfl | (simp; done) | (simp [*]; done)), H', ⟨by have := HK1.out; have := HJ9.out; have := HJ19.out; have := HK4.out; have := HJ25.out; omega⟩, ⟨by repeat (first | (with_reducible first | exact HB.out | apply below_alloc | apply pw_below_drewN | apply below_drew1) | exact HB.out)⟩⟩
                                  · rw [if_neg c38] at H
                                    have c38b0 : (t159 == x16_4) = false := beq_eq_false_iff_ne.mpr c38
                                    have c38b1 : (t159 != x16_4) = true := bne_iff_ne.mpr c38
                                    obtain rfl := Option.some.inj H
                                    go_wp2
                                    go_ret
                                    exact ⟨by first | rfl | (simp [errW_none, errW_some] <;> rfl) | (simp [*, errW_none, errW_some] <;> rfl), by repeat (first | (with_reducible first | exact HB.out | apply below_alloc | apply pw_below_drewN | apply below_drew1) | exact HB.out)⟩
                                · rw [if_neg c37] at H
                                  have c37b0 : (t158.toList == x15_4.toList) = false := beq_eq_false_iff_ne.mpr c37
                                  have c37b1 : (t158.toList != x15_4.toList) = true := bne_iff_ne.mpr c37
                                  obtain rfl := Option.some.inj H
                                  go_wp2
                                  go_ret
                                  exact ⟨by first | rfl | (simp [errW_none, errW_some] <;> rfl) | (simp [*, errW_none, errW_some] <;> rfl), by repeat (first | (with_reducible first | exact HB.out | apply below_alloc | apply pw_below_drewN | apply below_drew1) | exact HB.out)⟩
                    · replace c25 := Bool.eq_false_iff.mpr c25
                      subst c25
                      have H1 : (if t158.toList = (⟨#[]⟩ : ByteArray).toList then (if t159 = 0 then (if (t160 != false) = true then (some false) else (if (wrap64 ((a0.size : Int) + 1)) = 0 then (none) else (conchlaw9_LexTells.l0 kj19 a0 (Int.tmod (Go.bits .and .i64 x1_1 65535) (wrap64 ((a0.size : Int) + 1))) a2 (wrap64 (x7_1 + 1))))) else (some false)) else (some false)) = some r := by rw [if_neg (show ¬ (false = true) by decide)] at H; exact H
                      clear H
                      have H := H1
                      clear H1
                      by_cases c41 : t158.toList = (⟨#[]⟩ : ByteArray).toList
                      · rw [if_pos c41] at H
                        have c41b0 : (t158.toList == (⟨#[]⟩ : ByteArray).toList) = true := beq_iff_eq.mpr c41
                        try (have c41b0e := c41b0; rw [show (⟨#[]⟩ : ByteArray).toList = [] from by rw [ByteArray.toList_eq]] at c41b0e)
                        have c41b1 : (t158.toList != (⟨#[]⟩ : ByteArray).toList) = false := bne_eq_false_iff_eq.mpr c41
                        try (have c41b1e := c41b1; rw [show (⟨#[]⟩ : ByteArray).toList = [] from by rw [ByteArray.toList_eq]] at c41b1e)
                        clear c41
                        by_cases c42 : t159 = 0
                        · rw [if_pos c42] at H
                          have c42b0 : (t159 == 0) = true := beq_iff_eq.mpr c42
                          have c42b1 : (t159 != 0) = false := bne_eq_false_iff_eq.mpr c42
                          clear c42
                          by_cases c43 : (t160 != false) = true
                          · rw [if_pos c43] at H
                            have c43b0 : (t160 != false) = true := c43
                            (try (have c43b1 : decide (t160 = false) = false := by simpa using c43))
                            (try (have c43b2 : (t160 == false) = false := by simpa using c43))
                            (try (have c43b3 : ¬ (t160 = false) := by simpa using c43))
                            clear c43
                            obtain rfl := Option.some.inj H
                            go_wp2
                            go_ret
                            exact ⟨by first | rfl | (simp [errW_none, errW_some] <;> rfl) | (simp [*, errW_none, errW_some] <;> rfl), by repeat (first | (with_reducible first | exact HB.out | apply below_alloc | apply pw_below_drewN | apply below_drew1) | exact HB.out)⟩
                          · rw [if_neg c43] at H
                            have c43b0 : (t160 != false) = false := by simpa using c43
                            (try (have c43b1 : decide (t160 = false) = true := by simpa using c43))
                            (try (have c43b2 : (t160 == false) = true := by simpa using c43))
                            clear c43
                            by_cases c44 : (wrap64 ((a0.size : Int) + 1)) = 0
                            · rw [if_pos c44] at H
                              exact absurd H (by simp)
                            · rw [if_neg c44] at H
                              have c44b0 : ((wrap64 ((a0.size : Int) + 1)) == 0) = false := beq_eq_false_iff_ne.mpr c44
                              have c44b1 : ((wrap64 ((a0.size : Int) + 1)) != 0) = true := bne_iff_ne.mpr c44
                              have H' := Aside0.mk H
                              clear H
                              go_wp2
                              go_roundg kj19
                              case measure => have := HK1.out; have := HJ9.out; have := HJ19.out; omega
                              case rel => exact ⟨(Int.tmod (Go.bits .and .i64 x1_1 65535) (wrap64 ((a0.size : Int) + 1))), (wrap64 (x7_1 + 1)), (by first | rfl | (simp; done) | (simp [*]; done)), (by first | rfl | (simp; done) | (simp [*]; done)), H', ⟨by have := HK1.out; have := HJ9.out; have := HJ19.out; omega⟩, ⟨by repeat (first | (with_reducible first | exact HB.out | apply below_alloc | apply pw_below_drewN | apply below_drew1) | exact HB.out)⟩⟩
                        · rw [if_neg c42] at H
                          have c42b0 : (t159 == 0) = false := beq_eq_false_iff_ne.mpr c42
                          have c42b1 : (t159 != 0) = true := bne_iff_ne.mpr c42
                          obtain rfl := Option.some.inj H
                          go_wp2
                          go_ret
                          exact ⟨by first | rfl | (simp [errW_none, errW_some] <;> rfl) | (simp [*, errW_none, errW_some] <;> rfl), by repeat (first | (with_reducible first | exact HB.out | apply below_alloc | apply pw_below_drewN | apply below_drew1) | exact HB.out)⟩
                      · rw [if_neg c41] at H
                        have c41b0 : (t158.toList == (⟨#[]⟩ : ByteArray).toList) = false := beq_eq_false_iff_ne.mpr c41
                        try (have c41b0e := c41b0; rw [show (⟨#[]⟩ : ByteArray).toList = [] from by rw [ByteArray.toList_eq]] at c41b0e)
                        have c41b1 : (t158.toList != (⟨#[]⟩ : ByteArray).toList) = true := bne_iff_ne.mpr c41
                        try (have c41b1e := c41b1; rw [show (⟨#[]⟩ : ByteArray).toList = [] from by rw [ByteArray.toList_eq]] at c41b1e)
                        obtain rfl := Option.some.inj H
                        go_wp2
                        go_ret
                        exact ⟨by first | rfl | (simp [errW_none, errW_some] <;> rfl) | (simp [*, errW_none, errW_some] <;> rfl), by repeat (first | (with_reducible first | exact HB.out | apply below_alloc | apply pw_below_drewN | apply below_drew1) | exact HB.out)⟩
        · rw [if_neg c7] at H
          have c7b0 : decide (x7_1 < 2) = false := decide_eq_false c7
          clear c7
          replace H := Option.bind_eq_some_iff.mp H
          obtain ⟨t161, A450, H⟩ := H
          replace H : ((conchref1_Ends.f k1 a2).bind fun t162 => (if (t161 == t162) = true then ((lex_Reserved.f k1 a0).bind fun t163 => ((conchref1_Reserved.f a0).bind fun t164 => (if (t163 == t164) = true then ((conchlaw9_awake.f k1).bind fun t165 => (some t165)) else (some false)))) else (some false))) = some r := H
          have A45 := Aside0.mk A450
          clear A450
          replace H := Option.bind_eq_some_iff.mp H
          obtain ⟨t162, A460, H⟩ := H
          replace H : (if (t161 == t162) = true then ((lex_Reserved.f k1 a0).bind fun t163 => ((conchref1_Reserved.f a0).bind fun t164 => (if (t163 == t164) = true then ((conchlaw9_awake.f k1).bind fun t165 => (some t165)) else (some false)))) else (some false)) = some r := H
          have A46 := Aside0.mk A460
          clear A460
          by_cases c47 : (t161 == t162) = true
          · rw [if_pos c47] at H
            have c47b0 : (t161 == t162) = true := c47
            (try (have c47b1 : decide (t161 = t162) = true := by simpa using c47))
            (try (have c47b2 : (t161 == t162) = true := by simpa using c47))
            clear c47
            replace H := Option.bind_eq_some_iff.mp H
            obtain ⟨t163, A480, H⟩ := H
            replace H : ((conchref1_Reserved.f a0).bind fun t164 => (if (t163 == t164) = true then ((conchlaw9_awake.f k1).bind fun t165 => (some t165)) else (some false))) = some r := H
            have A48 := Aside0.mk A480
            clear A480
            replace H := Option.bind_eq_some_iff.mp H
            obtain ⟨t164, A490, H⟩ := H
            replace H : (if (t163 == t164) = true then ((conchlaw9_awake.f k1).bind fun t165 => (some t165)) else (some false)) = some r := H
            have A49 := Aside0.mk A490
            clear A490
            by_cases c50 : (t163 == t164) = true
            · rw [if_pos c50] at H
              have c50b0 : (t163 == t164) = true := c50
              (try (have c50b1 : decide (t163 = t164) = true := by simpa using c50))
              (try (have c50b2 : (t163 == t164) = true := by simpa using c50))
              clear c50
              replace H := Option.bind_eq_some_iff.mp H
              obtain ⟨t165, A510, H⟩ := H
              replace H : (some t165) = some r := H
              have A51 := Aside0.mk A510
              clear A510
              obtain rfl := Option.some.inj H
              go_wp2_with (first | ((with_reducible refine gate_callee (f := 9) rfl ?_); refine goesL_ (some 120) rfl rfl Try.func9 (by kernel_rfl) rfl #[.int .u8 a2] rfl (by (try simp only [List.map_toArray, List.map_cons, List.map_nil]); first | done | rfl | (simp only [List.length_drop, List.length_take]; rfl)) ?_; (with_reducible refine (lex_Ends.calls a2 t161 _ A45.out).mono ?_); rintro e w' ⟨rfl, ⟨nd, rfl⟩⟩; refine ⟨_, rfl, ?_⟩) | ((with_reducible refine gate_callee (f := 15) rfl ?_); refine goesL_ (some 122) rfl rfl Try.func15 (by kernel_rfl) rfl #[.int .u8 a2] rfl (by (try simp only [List.map_toArray, List.map_cons, List.map_nil]); first | done | rfl | (simp only [List.length_drop, List.length_take]; rfl)) ?_; (with_reducible refine (conchref1_Ends.calls k1 a2 t162 _ A46.out).mono ?_); rintro e w' ⟨rfl, ⟨nd, rfl⟩⟩; refine ⟨_, rfl, ?_⟩) | (go_at_call 7; (with_reducible refine (lex_Reserved.calls k1 a0 t163 _ A48.out).mono ?_); rintro e w52 ⟨rfl, hb⟩; have n0_ := Aside0.mk (below_step (by repeat (first | (with_reducible first | exact HB.out | apply below_alloc | apply pw_below_drewN | apply below_drew1) | exact HB.out)) hb); clear HB; have HB := n0_; clear n0_; (try clear hb); (try clear hb2); (try clear hk); (try clear hi)) | (go_at_call 16; (with_reducible refine (conchref1_Reserved.calls a0 t164 _ A49.out).mono ?_); rintro e w' ⟨rfl, ⟨nd, rfl⟩⟩) | (go_at_call 10; (with_reducible refine (conchlaw9_awake.calls k1  t165 _ A51.out).mono ?_); rintro e w53 ⟨rfl, hb⟩; have n0_ := Aside0.mk (below_step (by repeat (first | (with_reducible first | exact HB.out | apply below_alloc | apply pw_below_drewN | apply below_drew1) | exact HB.out)) hb); clear HB; have HB := n0_; clear n0_; (try clear hb); (try clear hb2); (try clear hk); (try clear hi)))
              go_ret
              exact ⟨by first | rfl | (simp [errW_none, errW_some] <;> rfl) | (simp [*, errW_none, errW_some] <;> rfl), by repeat (first | (with_reducible first | exact HB.out | apply below_alloc | apply pw_below_drewN | apply below_drew1) | exact HB.out)⟩
            · rw [if_neg c50] at H
              have c50b0 : (t163 == t164) = false := by simpa using c50
              (try (have c50b1 : decide (t163 = t164) = false := by simpa using c50))
              (try (have c50b2 : (t163 == t164) = false := by simpa using c50))
              (try (have c50b3 : ¬ (t163 = t164) := by simpa using c50))
              clear c50
              obtain rfl := Option.some.inj H
              go_wp2_with (first | ((with_reducible refine gate_callee (f := 9) rfl ?_); refine goesL_ (some 120) rfl rfl Try.func9 (by kernel_rfl) rfl #[.int .u8 a2] rfl (by (try simp only [List.map_toArray, List.map_cons, List.map_nil]); first | done | rfl | (simp only [List.length_drop, List.length_take]; rfl)) ?_; (with_reducible refine (lex_Ends.calls a2 t161 _ A45.out).mono ?_); rintro e w' ⟨rfl, ⟨nd, rfl⟩⟩; refine ⟨_, rfl, ?_⟩) | ((with_reducible refine gate_callee (f := 15) rfl ?_); refine goesL_ (some 122) rfl rfl Try.func15 (by kernel_rfl) rfl #[.int .u8 a2] rfl (by (try simp only [List.map_toArray, List.map_cons, List.map_nil]); first | done | rfl | (simp only [List.length_drop, List.length_take]; rfl)) ?_; (with_reducible refine (conchref1_Ends.calls k1 a2 t162 _ A46.out).mono ?_); rintro e w' ⟨rfl, ⟨nd, rfl⟩⟩; refine ⟨_, rfl, ?_⟩) | (go_at_call 7; (with_reducible refine (lex_Reserved.calls k1 a0 t163 _ A48.out).mono ?_); rintro e w54 ⟨rfl, hb⟩; have n0_ := Aside0.mk (below_step (by repeat (first | (with_reducible first | exact HB.out | apply below_alloc | apply pw_below_drewN | apply below_drew1) | exact HB.out)) hb); clear HB; have HB := n0_; clear n0_; (try clear hb); (try clear hb2); (try clear hk); (try clear hi)) | (go_at_call 16; (with_reducible refine (conchref1_Reserved.calls a0 t164 _ A49.out).mono ?_); rintro e w' ⟨rfl, ⟨nd, rfl⟩⟩))
              go_ret
              exact ⟨by first | rfl | (simp [errW_none, errW_some] <;> rfl) | (simp [*, errW_none, errW_some] <;> rfl), by repeat (first | (with_reducible first | exact HB.out | apply below_alloc | apply pw_below_drewN | apply below_drew1) | exact HB.out)⟩
          · rw [if_neg c47] at H
            have c47b0 : (t161 == t162) = false := by simpa using c47
            (try (have c47b1 : decide (t161 = t162) = false := by simpa using c47))
            (try (have c47b2 : (t161 == t162) = false := by simpa using c47))
            (try (have c47b3 : ¬ (t161 = t162) := by simpa using c47))
            clear c47
            obtain rfl := Option.some.inj H
            go_wp2_with (first | ((with_reducible refine gate_callee (f := 9) rfl ?_); refine goesL_ (some 120) rfl rfl Try.func9 (by kernel_rfl) rfl #[.int .u8 a2] rfl (by (try simp only [List.map_toArray, List.map_cons, List.map_nil]); first | done | rfl | (simp only [List.length_drop, List.length_take]; rfl)) ?_; (with_reducible refine (lex_Ends.calls a2 t161 _ A45.out).mono ?_); rintro e w' ⟨rfl, ⟨nd, rfl⟩⟩; refine ⟨_, rfl, ?_⟩) | ((with_reducible refine gate_callee (f := 15) rfl ?_); refine goesL_ (some 122) rfl rfl Try.func15 (by kernel_rfl) rfl #[.int .u8 a2] rfl (by (try simp only [List.map_toArray, List.map_cons, List.map_nil]); first | done | rfl | (simp only [List.length_drop, List.length_take]; rfl)) ?_; (with_reducible refine (conchref1_Ends.calls k1 a2 t162 _ A46.out).mono ?_); rintro e w' ⟨rfl, ⟨nd, rfl⟩⟩; refine ⟨_, rfl, ?_⟩))
            go_ret
            exact ⟨by first | rfl | (simp [errW_none, errW_some] <;> rfl) | (simp [*, errW_none, errW_some] <;> rfl), by repeat (first | (with_reducible first | exact HB.out | apply below_alloc | apply pw_below_drewN | apply below_drew1) | exact HB.out)⟩

/-- THE ONE PURE STATEMENT of conchlaw9_LexTells: yours. -/
def conchlaw9_LexTells.Pure : Prop := ∀ (a0 : ByteArray) (a1 : Int) (a2 : Int), a0.size ≤ 140737488351232 → (Lit.int .i64 a1).wf = true → (Lit.int .u8 a2).wf = true → ∃ k, conchlaw9_LexTells.f k a0 a1 a2 = some true
theorem conchlaw9_LexTells.walk (P : conchlaw9_LexTells.Pure) (a0 : ByteArray) (a1 : Int) (a2 : Int) (w : World) (w0 : a0.size ≤ 140737488351232) (w1 : (Lit.int .i64 a1).wf = true) (w2 : (Lit.int .u8 a2).wf = true) :
    Calls Try.prog 4 #[.string a0, .int .i64 a1, .int .u8 a2] w fun e w' => e = .returned (.bool true) ∧ Below w.heap.size w w' := by
  obtain ⟨k, h⟩ := P a0 a1 a2 w0 w1 w2
  refine (conchlaw9_LexTells.calls k a0 a1 a2 true w h).mono ?_
  rintro e w' ⟨rfl, hd⟩
  exact ⟨rfl, hd⟩

end Go.Proofs.Ytemdfhadijdddaa.PAll
