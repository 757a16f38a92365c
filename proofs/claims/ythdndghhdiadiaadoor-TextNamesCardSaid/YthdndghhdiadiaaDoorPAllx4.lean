-- Written by a program of this work (wip/tools/gprint.py).
import Derived.Test.YthdndghhdiadiaaDoorPAllx0
import Derived.Test.YthdndghhdiadiaaDoorPAllx1
import Derived.Test.YthdndghhdiadiaaDoorPAllx2
import Derived.Test.YthdndghhdiadiaaDoorPAllx3
namespace Go.Proofs.YthdndghhdiadiaaDoor.PAll
open Go.RowKit Go.Proofs.YthdndghhdiadiaaDoorW.PrintWords Go.Proofs.YthdndghhdiadiaaDoorW.PrintLast Go.Proofs.YthdndghhdiadiaaDoorW.PrintMore
attribute [local go_sem] max2_int min2_int max_two min_two max_three min_three max_four min_four   -- for this text's walks alone
set_option linter.unusedVariables false
set_option linter.unusedSimpArgs false

/-! ### conchlaw1_TextTells: function 4 -/
def conchlaw1_TextTells.l0 : Nat → ByteArray → Int → Int → Int → Option (Bool)
  | 0, _, _, _, _ => none
  | k + 1, x0, x1, x2, x7 => if x7 < 2 then ((text_NameLen.f k x0 x1).bind fun t150 => ((conchref1_NameLen.f k x0 x1).bind fun t151 => (if t150 = t151 then (if (wrap64 ((x0.size : Int) + 1)) = 0 then (none) else (conchlaw1_TextTells.l0 k x0 (Int.tmod (Go.bits .and .i64 x1 65535) (wrap64 ((x0.size : Int) + 1))) x2 (wrap64 (x7 + 1)))) else (some false)))) else ((text_Number.f k x0).bind fun bt152 => ((conchref1_Number.f k x0).bind fun bt154 => (if bt152.1 = bt154.1 then (if (bt152.2 == bt154.2) = true then ((text_Name.f k x0).bind fun t156 => ((conchref1_Name.f k x0).bind fun t157 => (if (t156 == t157) = true then ((text_Digits.f x2).bind fun t158 => ((conchref1_Digits.f k x2).bind fun t159 => (if t158.toList = t159.toList then ((text_Lines.f x0).bind fun t160 => ((conchref1_Lines.f k x0).bind fun t163 => ((conchlaw1_SameTexts.f k t160 t163).bind fun t166 => (if t166 = true then ((conchlaw1_awake.f k).bind fun t167 => (some t167)) else (some false))))) else (some false)))) else (some false)))) else (some false)) else (some false))))
def conchlaw1_TextTells.f (k : Nat) (a0 : ByteArray) (a1 : Int) (a2 : Int) : Option (Bool) := if (a0.size : Int) > 400 then ((conchlaw1_awake.f k).bind fun t149 => (some t149)) else (conchlaw1_TextTells.l0 k a0 a1 a2 0)
theorem conchlaw1_TextTells.mono_l : ∀ k, (∀ y0 y1 y2 y3, LeO (conchlaw1_TextTells.l0 k y0 y1 y2 y3) (conchlaw1_TextTells.l0 (k + 1) y0 y1 y2 y3))
  | 0 => fun _ _ _ _ r h => by simp [conchlaw1_TextTells.l0] at h
  | k + 1 => by
    have ih0 := conchlaw1_TextTells.mono_l k
    · intro y0 y1 y2 y3
      unfold conchlaw1_TextTells.l0
      repeat' first
      | (with_reducible exact ih0 _ _ _ _)
      | (with_reducible exact conchlaw1_SameTexts.mono _ _ _)
      | (with_reducible exact conchlaw1_awake.mono _)
      | (with_reducible exact conchref1_Digits.mono _ _)
      | (with_reducible exact conchref1_Lines.mono _ _)
      | (with_reducible exact conchref1_Name.mono _ _)
      | (with_reducible exact conchref1_NameLen.mono _ _ _)
      | (with_reducible exact conchref1_Number.mono _ _)
      | (with_reducible exact text_Name.mono _ _)
      | (with_reducible exact text_NameLen.mono _ _ _)
      | (with_reducible exact text_Number.mono _ _)
      | (with_reducible exact LeO.refl _)
      | (with_reducible exact LeO.none _)
      | (with_reducible refine LeO.ite ?_ ?_)
      | (with_reducible refine LeO.bind ?_ (fun _ => ?_))
      | exact ih0 _ _ _ _
      | exact conchlaw1_SameTexts.mono _ _ _
      | exact conchlaw1_awake.mono _
      | exact conchref1_Digits.mono _ _
      | exact conchref1_Lines.mono _ _
      | exact conchref1_Name.mono _ _
      | exact conchref1_NameLen.mono _ _ _
      | exact conchref1_Number.mono _ _
      | exact text_Name.mono _ _
      | exact text_NameLen.mono _ _ _
      | exact text_Number.mono _ _
      | exact LeO.none _
      | refine LeO.ite ?_ ?_
      | refine LeO.bind ?_ (fun _ => ?_)
theorem conchlaw1_TextTells.mono : ∀ a0 a1 a2 k, LeO (conchlaw1_TextTells.f k a0 a1 a2) (conchlaw1_TextTells.f (k + 1) a0 a1 a2) := by
  intro a0 a1 a2 k
  have ih0 := conchlaw1_TextTells.mono_l k
  unfold conchlaw1_TextTells.f
  repeat' first
      | (with_reducible exact ih0 _ _ _ _)
      | (with_reducible exact conchlaw1_SameTexts.mono _ _ _)
      | (with_reducible exact conchlaw1_awake.mono _)
      | (with_reducible exact conchref1_Digits.mono _ _)
      | (with_reducible exact conchref1_Lines.mono _ _)
      | (with_reducible exact conchref1_Name.mono _ _)
      | (with_reducible exact conchref1_NameLen.mono _ _ _)
      | (with_reducible exact conchref1_Number.mono _ _)
      | (with_reducible exact text_Name.mono _ _)
      | (with_reducible exact text_NameLen.mono _ _ _)
      | (with_reducible exact text_Number.mono _ _)
      | (with_reducible exact LeO.refl _)
      | (with_reducible exact LeO.none _)
      | (with_reducible refine LeO.ite ?_ ?_)
      | (with_reducible refine LeO.bind ?_ (fun _ => ?_))
      | exact ih0 _ _ _ _
      | exact conchlaw1_SameTexts.mono _ _ _
      | exact conchlaw1_awake.mono _
      | exact conchref1_Digits.mono _ _
      | exact conchref1_Lines.mono _ _
      | exact conchref1_Name.mono _ _
      | exact conchref1_NameLen.mono _ _ _
      | exact conchref1_Number.mono _ _
      | exact text_Name.mono _ _
      | exact text_NameLen.mono _ _ _
      | exact text_Number.mono _ _
      | exact LeO.none _
      | refine LeO.ite ?_ ?_
      | refine LeO.bind ?_ (fun _ => ?_)
set_option maxHeartbeats 8000000 in
set_option maxRecDepth 100000 in
theorem conchlaw1_TextTells.calls (k : Nat) (a0 : ByteArray) (a1 : Int) (a2 : Int) (r : Bool) (w : World) (h : conchlaw1_TextTells.f k a0 a1 a2 = some r) (HT : Aside0 (Go.Proofs.YthdndghhdiadiaaDoor.Tab.TabP w) := by first | exact HT | exact Go.Proofs.YthdndghhdiadiaaDoor.Tab.tabs_step HT (by repeat (first | (with_reducible first | exact HB.out | apply below_alloc | apply pw_below_drewN | apply below_drew1) | exact HB.out))) :
    Calls Tryd.prog 4 #[.string a0, .int .i64 a1, .int .i64 a2] w fun e w' => e = .returned (.bool r) ∧ Below w.heap.size w w' := by
  have HB := Aside0.mk (Below.refl w.heap.size w)
  have H : (if (a0.size : Int) > 400 then ((conchlaw1_awake.f k).bind fun t149 => (some t149)) else (conchlaw1_TextTells.l0 k a0 a1 a2 0)) = some r := h
  clear h
  by_cases c4 : (a0.size : Int) > 400
  · rw [if_pos c4] at H
    have c4b0 : decide (400 < (a0.size : Int)) = true := decide_eq_true c4
    have c4b1 : decide (400 < a0.size) = true := decide_eq_true (by omega)
    clear c4
    replace H := Option.bind_eq_some_iff.mp H
    obtain ⟨t149, A50, H⟩ := H
    replace H : (some t149) = some r := H
    have A5 := Aside0.mk A50
    clear A50
    obtain rfl := Option.some.inj H
    go_enter Tryd.func4, Tryd.ntmps4
    go_wp2_with (first | ((with_reducible refine gate_callee (f := 9) rfl ?_); refine goesL_ (some 15) rfl rfl Tryd.func9 (by kernel_rfl) rfl #[] rfl (by (try simp only [List.map_toArray, List.map_cons, List.map_nil]); first | done | rfl | (simp only [List.length_drop, List.length_take]; rfl)) ?_; (with_reducible refine (conchlaw1_awake.calls k  t149 _ A5.out).mono ?_); rintro e w6 ⟨rfl, hb⟩; refine ⟨_, rfl, ?_⟩; have n0_ := Aside0.mk (below_step (by repeat (first | (with_reducible first | exact HB.out | apply below_alloc | apply pw_below_drewN | apply below_drew1) | exact HB.out)) hb); clear HB; have HB := n0_; clear n0_; (try clear hb); (try clear hb2); (try clear hk); (try clear hi)))
    go_ret
    exact ⟨by first | rfl | (simp [errW_none, errW_some] <;> rfl) | (simp [*, errW_none, errW_some] <;> rfl), by repeat (first | (with_reducible first | exact HB.out | apply below_alloc | apply pw_below_drewN | apply below_drew1) | exact HB.out)⟩
  · rw [if_neg c4] at H
    have c4b0 : decide (400 < (a0.size : Int)) = false := decide_eq_false c4
    have c4b1 : decide (400 < a0.size) = false := decide_eq_false (by omega)
    clear c4
    have H' := Aside0.mk H
    clear H
    go_enter Tryd.func4, Tryd.ntmps4
    go_wp2
    go_loopg [1, 7] k (fun kq v1 v7 w' => ∃ (x1_1 : Int) (x7_1 : Int), v1 = .int .i64 x1_1 ∧ v7 = .int .i64 x7_1 ∧ Aside0 (conchlaw1_TextTells.l0 kq a0 x1_1 a2 x7_1 = some r) ∧ Aside0 (kq ≤ k) ∧ Aside0 (Below w.heap.size w w'))
    case atStart => exact ⟨(a1), (0), (by first | rfl | (simp; done) | (simp [*]; done)), (by first | rfl | (simp; done) | (simp [*]; done)), H', ⟨Nat.le_refl _⟩, ⟨by repeat (first | (with_reducible first | exact HB.out | apply below_alloc | apply pw_below_drewN | apply below_drew1) | exact HB.out)⟩⟩
    case round =>
      clear H'
      try clear p2
      try clear c4
      try clear c4b0
      try clear c4b1
      obtain ⟨x1_1, x7_1, rfl, rfl, HA, HK1, HB⟩ := hrel
      cases gk with
      | zero => exact absurd HA.out (by simp [conchlaw1_TextTells.l0])
      | succ k1 =>
        have H := HA.out
        clear HA
        simp only [conchlaw1_TextTells.l0] at H
        by_cases c7 : x7_1 < 2
        · rw [if_pos c7] at H
          have c7b0 : decide (x7_1 < 2) = true := decide_eq_true c7
          clear c7
          replace H := Option.bind_eq_some_iff.mp H
          obtain ⟨t150, A80, H⟩ := H
          replace H : ((conchref1_NameLen.f k1 a0 x1_1).bind fun t151 => (if t150 = t151 then (if (wrap64 ((a0.size : Int) + 1)) = 0 then (none) else (conchlaw1_TextTells.l0 k1 a0 (Int.tmod (Go.bits .and .i64 x1_1 65535) (wrap64 ((a0.size : Int) + 1))) a2 (wrap64 (x7_1 + 1)))) else (some false))) = some r := H
          have A8 := Aside0.mk A80
          clear A80
          replace H := Option.bind_eq_some_iff.mp H
          obtain ⟨t151, A90, H⟩ := H
          replace H : (if t150 = t151 then (if (wrap64 ((a0.size : Int) + 1)) = 0 then (none) else (conchlaw1_TextTells.l0 k1 a0 (Int.tmod (Go.bits .and .i64 x1_1 65535) (wrap64 ((a0.size : Int) + 1))) a2 (wrap64 (x7_1 + 1)))) else (some false)) = some r := H
          have A9 := Aside0.mk A90
          clear A90
          by_cases c10 : t150 = t151
          · rw [if_pos c10] at H
            have c10b0 : (t150 == t151) = true := beq_iff_eq.mpr c10
            have c10b1 : (t150 != t151) = false := bne_eq_false_iff_eq.mpr c10
            clear c10
            by_cases c11 : (wrap64 ((a0.size : Int) + 1)) = 0
            · rw [if_pos c11] at H
              exact absurd H (by simp)
            · rw [if_neg c11] at H
              have c11b0 : ((wrap64 ((a0.size : Int) + 1)) == 0) = false := beq_eq_false_iff_ne.mpr c11
              have c11b1 : ((wrap64 ((a0.size : Int) + 1)) != 0) = true := bne_iff_ne.mpr c11
              have H' := Aside0.mk H
              clear H
              go_wp2_with (first | ((with_reducible refine gate_callee (f := 10) rfl ?_); refine goesL_ (some 22) rfl rfl Tryd.func10 (by kernel_rfl) rfl #[.string a0, .int .i64 x1_1] rfl (by (try simp only [List.map_toArray, List.map_cons, List.map_nil]); first | done | rfl | (simp only [List.length_drop, List.length_take]; rfl)) ?_; (with_reducible refine (text_NameLen.calls k1 a0 x1_1 t150 _ A8.out).mono ?_); rintro e w' ⟨rfl, ⟨nd, rfl⟩⟩; refine ⟨_, rfl, ?_⟩) | ((with_reducible refine gate_callee (f := 11) rfl ?_); refine goesL_ (some 25) rfl rfl Tryd.func11 (by kernel_rfl) rfl #[.string a0, .int .i64 x1_1] rfl (by (try simp only [List.map_toArray, List.map_cons, List.map_nil]); first | done | rfl | (simp only [List.length_drop, List.length_take]; rfl)) ?_; (with_reducible refine (conchref1_NameLen.calls k1 a0 x1_1 t151 _ A9.out).mono ?_); rintro e w' ⟨rfl, ⟨nd, rfl⟩⟩; refine ⟨_, rfl, ?_⟩))
              go_roundg k1
              case measure => have := HK1.out; omega
              case rel => exact ⟨(Int.tmod (Go.bits .and .i64 x1_1 65535) (wrap64 ((a0.size : Int) + 1))), (wrap64 (x7_1 + 1)), (by first | rfl | (simp; done) | (simp [*]; done)), (by first | rfl | (simp; done) | (simp [*]; done)), H', ⟨by have := HK1.out; omega⟩, ⟨by repeat (first | (with_reducible first | exact HB.out | apply below_alloc | apply pw_below_drewN | apply below_drew1) | exact HB.out)⟩⟩
          · rw [if_neg c10] at H
            have c10b0 : (t150 == t151) = false := beq_eq_false_iff_ne.mpr c10
            have c10b1 : (t150 != t151) = true := bne_iff_ne.mpr c10
            obtain rfl := Option.some.inj H
            go_wp2_with (first | ((with_reducible refine gate_callee (f := 10) rfl ?_); refine goesL_ (some 22) rfl rfl Tryd.func10 (by kernel_rfl) rfl #[.string a0, .int .i64 x1_1] rfl (by (try simp only [List.map_toArray, List.map_cons, List.map_nil]); first | done | rfl | (simp only [List.length_drop, List.length_take]; rfl)) ?_; (with_reducible refine (text_NameLen.calls k1 a0 x1_1 t150 _ A8.out).mono ?_); rintro e w' ⟨rfl, ⟨nd, rfl⟩⟩; refine ⟨_, rfl, ?_⟩) | ((with_reducible refine gate_callee (f := 11) rfl ?_); refine goesL_ (some 25) rfl rfl Tryd.func11 (by kernel_rfl) rfl #[.string a0, .int .i64 x1_1] rfl (by (try simp only [List.map_toArray, List.map_cons, List.map_nil]); first | done | rfl | (simp only [List.length_drop, List.length_take]; rfl)) ?_; (with_reducible refine (conchref1_NameLen.calls k1 a0 x1_1 t151 _ A9.out).mono ?_); rintro e w' ⟨rfl, ⟨nd, rfl⟩⟩; refine ⟨_, rfl, ?_⟩))
            go_ret
            exact ⟨by first | rfl | (simp [errW_none, errW_some] <;> rfl) | (simp [*, errW_none, errW_some] <;> rfl), by repeat (first | (with_reducible first | exact HB.out | apply below_alloc | apply pw_below_drewN | apply below_drew1) | exact HB.out)⟩
        · rw [if_neg c7] at H
          have c7b0 : decide (x7_1 < 2) = false := decide_eq_false c7
          clear c7
          replace H := Option.bind_eq_some_iff.mp H
          obtain ⟨⟨t152, t153⟩, A120, H⟩ := H
          replace H : ((conchref1_Number.f k1 a0).bind fun bt154 => (if t152 = bt154.1 then (if (t153 == bt154.2) = true then ((text_Name.f k1 a0).bind fun t156 => ((conchref1_Name.f k1 a0).bind fun t157 => (if (t156 == t157) = true then ((text_Digits.f a2).bind fun t158 => ((conchref1_Digits.f k1 a2).bind fun t159 => (if t158.toList = t159.toList then ((text_Lines.f a0).bind fun t160 => ((conchref1_Lines.f k1 a0).bind fun t163 => ((conchlaw1_SameTexts.f k1 t160 t163).bind fun t166 => (if t166 = true then ((conchlaw1_awake.f k1).bind fun t167 => (some t167)) else (some false))))) else (some false)))) else (some false)))) else (some false)) else (some false))) = some r := H
          have A12 := Aside0.mk A120
          clear A120
          replace H := Option.bind_eq_some_iff.mp H
          obtain ⟨⟨t154, t155⟩, A130, H⟩ := H
          replace H : (if t152 = t154 then (if (t153 == t155) = true then ((text_Name.f k1 a0).bind fun t156 => ((conchref1_Name.f k1 a0).bind fun t157 => (if (t156 == t157) = true then ((text_Digits.f a2).bind fun t158 => ((conchref1_Digits.f k1 a2).bind fun t159 => (if t158.toList = t159.toList then ((text_Lines.f a0).bind fun t160 => ((conchref1_Lines.f k1 a0).bind fun t163 => ((conchlaw1_SameTexts.f k1 t160 t163).bind fun t166 => (if t166 = true then ((conchlaw1_awake.f k1).bind fun t167 => (some t167)) else (some false))))) else (some false)))) else (some false)))) else (some false)) else (some false)) = some r := H
          have A13 := Aside0.mk A130
          clear A130
          by_cases c14 : t152 = t154
          · rw [if_pos c14] at H
            have c14b0 : (t152 == t154) = true := beq_iff_eq.mpr c14
            have c14b1 : (t152 != t154) = false := bne_eq_false_iff_eq.mpr c14
            clear c14
            by_cases c15 : (t153 == t155) = true
            · rw [if_pos c15] at H
              have c15b0 : (t153 == t155) = true := c15
              (try (have c15b1 : decide (t153 = t155) = true := by simpa using c15))
              (try (have c15b2 : (t153 == t155) = true := by simpa using c15))
              clear c15
              replace H := Option.bind_eq_some_iff.mp H
              obtain ⟨t156, A160, H⟩ := H
              replace H : ((conchref1_Name.f k1 a0).bind fun t157 => (if (t156 == t157) = true then ((text_Digits.f a2).bind fun t158 => ((conchref1_Digits.f k1 a2).bind fun t159 => (if t158.toList = t159.toList then ((text_Lines.f a0).bind fun t160 => ((conchref1_Lines.f k1 a0).bind fun t163 => ((conchlaw1_SameTexts.f k1 t160 t163).bind fun t166 => (if t166 = true then ((conchlaw1_awake.f k1).bind fun t167 => (some t167)) else (some false))))) else (some false)))) else (some false))) = some r := H
              have A16 := Aside0.mk A160
              clear A160
              replace H := Option.bind_eq_some_iff.mp H
              obtain ⟨t157, A170, H⟩ := H
              replace H : (if (t156 == t157) = true then ((text_Digits.f a2).bind fun t158 => ((conchref1_Digits.f k1 a2).bind fun t159 => (if t158.toList = t159.toList then ((text_Lines.f a0).bind fun t160 => ((conchref1_Lines.f k1 a0).bind fun t163 => ((conchlaw1_SameTexts.f k1 t160 t163).bind fun t166 => (if t166 = true then ((conchlaw1_awake.f k1).bind fun t167 => (some t167)) else (some false))))) else (some false)))) else (some false)) = some r := H
              have A17 := Aside0.mk A170
              clear A170
              by_cases c18 : (t156 == t157) = true
              · rw [if_pos c18] at H
                have c18b0 : (t156 == t157) = true := c18
                (try (have c18b1 : decide (t156 = t157) = true := by simpa using c18))
                (try (have c18b2 : (t156 == t157) = true := by simpa using c18))
                clear c18
                replace H := Option.bind_eq_some_iff.mp H
                obtain ⟨t158, A190, H⟩ := H
                replace H : ((conchref1_Digits.f k1 a2).bind fun t159 => (if t158.toList = t159.toList then ((text_Lines.f a0).bind fun t160 => ((conchref1_Lines.f k1 a0).bind fun t163 => ((conchlaw1_SameTexts.f k1 t160 t163).bind fun t166 => (if t166 = true then ((conchlaw1_awake.f k1).bind fun t167 => (some t167)) else (some false))))) else (some false))) = some r := H
                have A19 := Aside0.mk A190
                clear A190
                replace H := Option.bind_eq_some_iff.mp H
                obtain ⟨t159, A200, H⟩ := H
                replace H : (if t158.toList = t159.toList then ((text_Lines.f a0).bind fun t160 => ((conchref1_Lines.f k1 a0).bind fun t163 => ((conchlaw1_SameTexts.f k1 t160 t163).bind fun t166 => (if t166 = true then ((conchlaw1_awake.f k1).bind fun t167 => (some t167)) else (some false))))) else (some false)) = some r := H
                have A20 := Aside0.mk A200
                clear A200
                by_cases c21 : t158.toList = t159.toList
                · rw [if_pos c21] at H
                  have c21b0 : (t158.toList == t159.toList) = true := beq_iff_eq.mpr c21
                  have c21b1 : (t158.toList != t159.toList) = false := bne_eq_false_iff_eq.mpr c21
                  clear c21
                  replace H := Option.bind_eq_some_iff.mp H
                  obtain ⟨t160, A220, H⟩ := H
                  replace H : ((conchref1_Lines.f k1 a0).bind fun t163 => ((conchlaw1_SameTexts.f k1 t160 t163).bind fun t166 => (if t166 = true then ((conchlaw1_awake.f k1).bind fun t167 => (some t167)) else (some false)))) = some r := H
                  have A22 := Aside0.mk A220
                  clear A220
                  replace H := Option.bind_eq_some_iff.mp H
                  obtain ⟨t163, A230, H⟩ := H
                  replace H : ((conchlaw1_SameTexts.f k1 t160 t163).bind fun t166 => (if t166 = true then ((conchlaw1_awake.f k1).bind fun t167 => (some t167)) else (some false))) = some r := H
                  have A23 := Aside0.mk A230
                  clear A230
                  replace H := Option.bind_eq_some_iff.mp H
                  obtain ⟨t166, A240, H⟩ := H
                  replace H : (if t166 = true then ((conchlaw1_awake.f k1).bind fun t167 => (some t167)) else (some false)) = some r := H
                  have A24 := Aside0.mk A240
                  clear A240
                  by_cases c25 : t166 = true
                  · subst c25
                    have H1 : ((conchlaw1_awake.f k1).bind fun t167 => (some t167)) = some r := by rw [if_pos rfl] at H; exact H
                    clear H
                    have H := H1
                    clear H1
                    replace H := Option.bind_eq_some_iff.mp H
                    obtain ⟨t167, A260, H⟩ := H
                    replace H : (some t167) = some r := H
                    have A26 := Aside0.mk A260
                    clear A260
                    obtain rfl := Option.some.inj H
                    go_wp2_with (first | ((with_reducible refine gate_callee (f := 8) rfl ?_); refine goesL_ (some 35) rfl rfl Tryd.func8 (by kernel_rfl) rfl #[.string a0] rfl (by (try simp only [List.map_toArray, List.map_cons, List.map_nil]); first | done | rfl | (simp only [List.length_drop, List.length_take]; rfl)) ?_; (with_reducible refine (text_Number.calls k1 a0 t152 t153 _ A12.out).mono ?_); rintro e w' ⟨rfl, ⟨nd, rfl⟩⟩; refine ⟨_, rfl, ?_⟩) | ((with_reducible refine gate_callee (f := 12) rfl ?_); refine goesL_ (some 40) rfl rfl Tryd.func12 (by kernel_rfl) rfl #[.string a0] rfl (by (try simp only [List.map_toArray, List.map_cons, List.map_nil]); first | done | rfl | (simp only [List.length_drop, List.length_take]; rfl)) ?_; (with_reducible refine (conchref1_Number.calls k1 a0 t154 t155 _ A13.out).mono ?_); rintro e w' ⟨rfl, ⟨nd, rfl⟩⟩; refine ⟨_, rfl, ?_⟩) | (go_at_call 13; (with_reducible refine (text_Name.calls k1 a0 t156 _ A16.out).mono ?_); rintro e w' ⟨rfl, ⟨nd, rfl⟩⟩) | (go_at_call 14; (with_reducible refine (conchref1_Name.calls k1 a0 t157 _ A17.out).mono ?_); rintro e w' ⟨rfl, ⟨nd, rfl⟩⟩) | (go_at_call 7; (with_reducible refine (text_Digits.calls a2 t158 _ A19.out).mono ?_); rintro e w27 ⟨rfl, hb⟩; have n0_ := Aside0.mk (below_step (by repeat (first | (with_reducible first | exact HB.out | apply below_alloc | apply pw_below_drewN | apply below_drew1) | exact HB.out)) hb); clear HB; have HB := n0_; clear n0_; (try clear hb); (try clear hb2); (try clear hk); (try clear hi)) | (go_at_call 15; (with_reducible refine (conchref1_Digits.calls k1 a2 t159 _ A20.out).mono ?_); rintro e w' ⟨rfl, ⟨nd, rfl⟩⟩) | (go_at_call 17; (with_reducible refine (text_Lines.calls a0 t160 _ A22.out).mono ?_); rintro e w28 ⟨v161, rfl, ho0, hb⟩; have n0_ := Aside0.mk (Kd.R_lower ho0 (below_size (by repeat (first | (with_reducible first | exact HB.out | apply below_alloc | apply pw_below_drewN | apply below_drew1) | exact HB.out)))); have n1_ := Aside0.mk (below_step (by repeat (first | (with_reducible first | exact HB.out | apply below_alloc | apply pw_below_drewN | apply below_drew1) | exact HB.out)) hb); clear HB; have HO162 := n0_; have HB := n1_; clear n0_ n1_; (try clear hb); (try clear hb2); (try clear hk); (try clear hi); (try clear ho0)) | (go_at_call 18; (with_reducible refine (conchref1_Lines.calls k1 a0 t163 _ A23.out).mono ?_); rintro e w29 ⟨v164, rfl, ho0, hb⟩; have n0_ := Aside0.mk (Kd.R_elder' (by (with_reducible repeat (first | apply Kd.R_alloc | apply Kd.R_drewN | apply Kd.R_drew)); exact HO162.out) (Kd.R_base ho0) hb); have n1_ := Aside0.mk (Kd.R_lower (Kd.R_new' ho0 (Kd.R_lt (by (with_reducible repeat (first | apply Kd.R_alloc | apply Kd.R_drewN | apply Kd.R_drew)); exact HO162.out))) (below_size (by repeat (first | (with_reducible first | exact HB.out | apply below_alloc | apply pw_below_drewN | apply below_drew1) | exact HB.out)))); have n2_ := Aside0.mk (below_step (by repeat (first | (with_reducible first | exact HB.out | apply below_alloc | apply pw_below_drewN | apply below_drew1) | exact HB.out)) hb); clear HO162; clear HB; have HO162 := n0_; have HO165 := n1_; have HB := n2_; clear n0_ n1_ n2_; (try clear hb); (try clear hb2); (try clear hk); (try clear hi); (try clear ho0); obtain ⟨Ao30, co30, eo30⟩ := Kd.R_slice HO162.out; subst eo30; obtain ⟨Ao31, co31, eo31⟩ := Kd.R_slice HO165.out; subst eo31) | (go_at_call 16; (with_reducible refine (conchlaw1_SameTexts.calls k1 _ _ t160 _ _ t163 true _ ?side1 ?side2 ?side3 ?side4 A24.out).mono ?_); (case side1 => repeat (first | exact (Kd.R_reads' HO162.out).2.2 | (with_reducible refine Kd.C_alloc ?_ _) | (with_reducible refine Kd.C_drewN ?_ _) | (with_reducible refine Kd.C_drew ?_))); (case side2 => exact (Kd.R_reads' HO162.out).2.1); (case side3 => repeat (first | exact (Kd.R_reads' HO165.out).2.2 | (with_reducible refine Kd.C_alloc ?_ _) | (with_reducible refine Kd.C_drewN ?_ _) | (with_reducible refine Kd.C_drew ?_))); (case side4 => exact (Kd.R_reads' HO165.out).2.1); rintro e w' ⟨rfl, ⟨nd, rfl⟩⟩) | (go_at_call 9; (with_reducible refine (conchlaw1_awake.calls k1  t167 _ A26.out).mono ?_); rintro e w32 ⟨rfl, hb⟩; have n0_ := Aside0.mk (Kd.R_below (by (with_reducible repeat (first | apply Kd.R_alloc | apply Kd.R_drewN | apply Kd.R_drew)); exact HO162.out) hb); have n1_ := Aside0.mk (Kd.R_below (by (with_reducible repeat (first | apply Kd.R_alloc | apply Kd.R_drewN | apply Kd.R_drew)); exact HO165.out) hb); have n2_ := Aside0.mk (below_step (by repeat (first | (with_reducible first | exact HB.out | apply below_alloc | apply pw_below_drewN | apply below_drew1) | exact HB.out)) hb); clear HO162; clear HO165; clear HB; have HO162 := n0_; have HO165 := n1_; have HB := n2_; clear n0_ n1_ n2_; (try clear hb); (try clear hb2); (try clear hk); (try clear hi)))
                    go_ret
                    exact ⟨by first | rfl | (simp [errW_none, errW_some] <;> rfl) | (simp [*, errW_none, errW_some] <;> rfl), by repeat (first | (with_reducible first | exact HB.out | apply below_alloc | apply pw_below_drewN | apply below_drew1) | exact HB.out)⟩
                  · replace c25 := Bool.eq_false_iff.mpr c25
                    subst c25
                    have H1 : (some false) = some r := by rw [if_neg (show ¬ (false = true) by decide)] at H; exact H
                    clear H
                    have H := H1
                    clear H1
                    obtain rfl := Option.some.inj H
                    go_wp2_with (first | ((with_reducible refine gate_callee (f := 8) rfl ?_); refine goesL_ (some 35) rfl rfl Tryd.func8 (by kernel_rfl) rfl #[.string a0] rfl (by (try simp only [List.map_toArray, List.map_cons, List.map_nil]); first | done | rfl | (simp only [List.length_drop, List.length_take]; rfl)) ?_; (with_reducible refine (text_Number.calls k1 a0 t152 t153 _ A12.out).mono ?_); rintro e w' ⟨rfl, ⟨nd, rfl⟩⟩; refine ⟨_, rfl, ?_⟩) | ((with_reducible refine gate_callee (f := 12) rfl ?_); refine goesL_ (some 40) rfl rfl Tryd.func12 (by kernel_rfl) rfl #[.string a0] rfl (by (try simp only [List.map_toArray, List.map_cons, List.map_nil]); first | done | rfl | (simp only [List.length_drop, List.length_take]; rfl)) ?_; (with_reducible refine (conchref1_Number.calls k1 a0 t154 t155 _ A13.out).mono ?_); rintro e w' ⟨rfl, ⟨nd, rfl⟩⟩; refine ⟨_, rfl, ?_⟩) | (go_at_call 13; (with_reducible refine (text_Name.calls k1 a0 t156 _ A16.out).mono ?_); rintro e w' ⟨rfl, ⟨nd, rfl⟩⟩) | (go_at_call 14; (with_reducible refine (conchref1_Name.calls k1 a0 t157 _ A17.out).mono ?_); rintro e w' ⟨rfl, ⟨nd, rfl⟩⟩) | (go_at_call 7; (with_reducible refine (text_Digits.calls a2 t158 _ A19.out).mono ?_); rintro e w33 ⟨rfl, hb⟩; have n0_ := Aside0.mk (below_step (by repeat (first | (with_reducible first | exact HB.out | apply below_alloc | apply pw_below_drewN | apply below_drew1) | exact HB.out)) hb); clear HB; have HB := n0_; clear n0_; (try clear hb); (try clear hb2); (try clear hk); (try clear hi)) | (go_at_call 15; (with_reducible refine (conchref1_Digits.calls k1 a2 t159 _ A20.out).mono ?_); rintro e w' ⟨rfl, ⟨nd, rfl⟩⟩) | (go_at_call 17; (with_reducible refine (text_Lines.calls a0 t160 _ A22.out).mono ?_); rintro e w34 ⟨v161, rfl, ho0, hb⟩; have n0_ := Aside0.mk (Kd.R_lower ho0 (below_size (by repeat (first | (with_reducible first | exact HB.out | apply below_alloc | apply pw_below_drewN | apply below_drew1) | exact HB.out)))); have n1_ := Aside0.mk (below_step (by repeat (first | (with_reducible first | exact HB.out | apply below_alloc | apply pw_below_drewN | apply below_drew1) | exact HB.out)) hb); clear HB; have HO162 := n0_; have HB := n1_; clear n0_ n1_; (try clear hb); (try clear hb2); (try clear hk); (try clear hi); (try clear ho0)) | (go_at_call 18; (with_reducible refine (conchref1_Lines.calls k1 a0 t163 _ A23.out).mono ?_); rintro e w35 ⟨v164, rfl, ho0, hb⟩; have n0_ := Aside0.mk (Kd.R_elder' (by (with_reducible repeat (first | apply Kd.R_alloc | apply Kd.R_drewN | apply Kd.R_drew)); exact HO162.out) (Kd.R_base ho0) hb); have n1_ := Aside0.mk (Kd.R_lower (Kd.R_new' ho0 (Kd.R_lt (by (with_reducible repeat (first | apply Kd.R_alloc | apply Kd.R_drewN | apply Kd.R_drew)); exact HO162.out))) (below_size (by repeat (first | (with_reducible first | exact HB.out | apply below_alloc | apply pw_below_drewN | apply below_drew1) | exact HB.out)))); have n2_ := Aside0.mk (below_step (by repeat (first | (with_reducible first | exact HB.out | apply below_alloc | apply pw_below_drewN | apply below_drew1) | exact HB.out)) hb); clear HO162; clear HB; have HO162 := n0_; have HO165 := n1_; have HB := n2_; clear n0_ n1_ n2_; (try clear hb); (try clear hb2); (try clear hk); (try clear hi); (try clear ho0); obtain ⟨Ao36, co36, eo36⟩ := Kd.R_slice HO162.out; subst eo36; obtain ⟨Ao37, co37, eo37⟩ := Kd.R_slice HO165.out; subst eo37) | (go_at_call 16; (with_reducible refine (conchlaw1_SameTexts.calls k1 _ _ t160 _ _ t163 false _ ?side1 ?side2 ?side3 ?side4 A24.out).mono ?_); (case side1 => repeat (first | exact (Kd.R_reads' HO162.out).2.2 | (with_reducible refine Kd.C_alloc ?_ _) | (with_reducible refine Kd.C_drewN ?_ _) | (with_reducible refine Kd.C_drew ?_))); (case side2 => exact (Kd.R_reads' HO162.out).2.1); (case side3 => repeat (first | exact (Kd.R_reads' HO165.out).2.2 | (with_reducible refine Kd.C_alloc ?_ _) | (with_reducible refine Kd.C_drewN ?_ _) | (with_reducible refine Kd.C_drew ?_))); (case side4 => exact (Kd.R_reads' HO165.out).2.1); rintro e w' ⟨rfl, ⟨nd, rfl⟩⟩))
                    go_ret
                    exact ⟨by first | rfl | (simp [errW_none, errW_some] <;> rfl) | (simp [*, errW_none, errW_some] <;> rfl), by repeat (first | (with_reducible first | exact HB.out | apply below_alloc | apply pw_below_drewN | apply below_drew1) | exact HB.out)⟩
                · rw [if_neg c21] at H
                  have c21b0 : (t158.toList == t159.toList) = false := beq_eq_false_iff_ne.mpr c21
                  have c21b1 : (t158.toList != t159.toList) = true := bne_iff_ne.mpr c21
                  obtain rfl := Option.some.inj H
                  go_wp2_with (first | ((with_reducible refine gate_callee (f := 8) rfl ?_); refine goesL_ (some 35) rfl rfl Tryd.func8 (by kernel_rfl) rfl #[.string a0] rfl (by (try simp only [List.map_toArray, List.map_cons, List.map_nil]); first | done | rfl | (simp only [List.length_drop, List.length_take]; rfl)) ?_; (with_reducible refine (text_Number.calls k1 a0 t152 t153 _ A12.out).mono ?_); rintro e w' ⟨rfl, ⟨nd, rfl⟩⟩; refine ⟨_, rfl, ?_⟩) | ((with_reducible refine gate_callee (f := 12) rfl ?_); refine goesL_ (some 40) rfl rfl Tryd.func12 (by kernel_rfl) rfl #[.string a0] rfl (by (try simp only [List.map_toArray, List.map_cons, List.map_nil]); first | done | rfl | (simp only [List.length_drop, List.length_take]; rfl)) ?_; (with_reducible refine (conchref1_Number.calls k1 a0 t154 t155 _ A13.out).mono ?_); rintro e w' ⟨rfl, ⟨nd, rfl⟩⟩; refine ⟨_, rfl, ?_⟩) | (go_at_call 13; (with_reducible refine (text_Name.calls k1 a0 t156 _ A16.out).mono ?_); rintro e w' ⟨rfl, ⟨nd, rfl⟩⟩) | (go_at_call 14; (with_reducible refine (conchref1_Name.calls k1 a0 t157 _ A17.out).mono ?_); rintro e w' ⟨rfl, ⟨nd, rfl⟩⟩) | (go_at_call 7; (with_reducible refine (text_Digits.calls a2 t158 _ A19.out).mono ?_); rintro e w38 ⟨rfl, hb⟩; have n0_ := Aside0.mk (below_step (by repeat (first | (with_reducible first | exact HB.out | apply below_alloc | apply pw_below_drewN | apply below_drew1) | exact HB.out)) hb); clear HB; have HB := n0_; clear n0_; (try clear hb); (try clear hb2); (try clear hk); (try clear hi)) | (go_at_call 15; (with_reducible refine (conchref1_Digits.calls k1 a2 t159 _ A20.out).mono ?_); rintro e w' ⟨rfl, ⟨nd, rfl⟩⟩))
                  go_ret
                  exact ⟨by first | rfl | (simp [errW_none, errW_some] <;> rfl) | (simp [*, errW_none, errW_some] <;> rfl), by repeat (first | (with_reducible first | exact HB.out | apply below_alloc | apply pw_below_drewN | apply below_drew1) | exact HB.out)⟩
              · rw [if_neg c18] at H
                have c18b0 : (t156 == t157) = false := by simpa using c18
                (try (have c18b1 : decide (t156 = t157) = false := by simpa using c18))
                (try (have c18b2 : (t156 == t157) = false := by simpa using c18))
                (try (have c18b3 : ¬ (t156 = t157) := by simpa using c18))
                clear c18
                obtain rfl := Option.some.inj H
                go_wp2_with (first | ((with_reducible refine gate_callee (f := 8) rfl ?_); refine goesL_ (some 35) rfl rfl Tryd.func8 (by kernel_rfl) rfl #[.string a0] rfl (by (try simp only [List.map_toArray, List.map_cons, List.map_nil]); first | done | rfl | (simp only [List.length_drop, List.length_take]; rfl)) ?_; (with_reducible refine (text_Number.calls k1 a0 t152 t153 _ A12.out).mono ?_); rintro e w' ⟨rfl, ⟨nd, rfl⟩⟩; refine ⟨_, rfl, ?_⟩) | ((with_reducible refine gate_callee (f := 12) rfl ?_); refine goesL_ (some 40) rfl rfl Tryd.func12 (by kernel_rfl) rfl #[.string a0] rfl (by (try simp only [List.map_toArray, List.map_cons, List.map_nil]); first | done | rfl | (simp only [List.length_drop, List.length_take]; rfl)) ?_; (with_reducible refine (conchref1_Number.calls k1 a0 t154 t155 _ A13.out).mono ?_); rintro e w' ⟨rfl, ⟨nd, rfl⟩⟩; refine ⟨_, rfl, ?_⟩) | (go_at_call 13; (with_reducible refine (text_Name.calls k1 a0 t156 _ A16.out).mono ?_); rintro e w' ⟨rfl, ⟨nd, rfl⟩⟩) | (go_at_call 14; (with_reducible refine (conchref1_Name.calls k1 a0 t157 _ A17.out).mono ?_); rintro e w' ⟨rfl, ⟨nd, rfl⟩⟩))
                go_ret
                exact ⟨by first | rfl | (simp [errW_none, errW_some] <;> rfl) | (simp [*, errW_none, errW_some] <;> rfl), by repeat (first | (with_reducible first | exact HB.out | apply below_alloc | apply pw_below_drewN | apply below_drew1) | exact HB.out)⟩
            · rw [if_neg c15] at H
              have c15b0 : (t153 == t155) = false := by simpa using c15
              (try (have c15b1 : decide (t153 = t155) = false := by simpa using c15))
              (try (have c15b2 : (t153 == t155) = false := by simpa using c15))
              (try (have c15b3 : ¬ (t153 = t155) := by simpa using c15))
              clear c15
              obtain rfl := Option.some.inj H
              go_wp2_with (first | ((with_reducible refine gate_callee (f := 8) rfl ?_); refine goesL_ (some 35) rfl rfl Tryd.func8 (by kernel_rfl) rfl #[.string a0] rfl (by (try simp only [List.map_toArray, List.map_cons, List.map_nil]); first | done | rfl | (simp only [List.length_drop, List.length_take]; rfl)) ?_; (with_reducible refine (text_Number.calls k1 a0 t152 t153 _ A12.out).mono ?_); rintro e w' ⟨rfl, ⟨nd, rfl⟩⟩; refine ⟨_, rfl, ?_⟩) | ((with_reducible refine gate_callee (f := 12) rfl ?_); refine goesL_ (some 40) rfl rfl Tryd.func12 (by kernel_rfl) rfl #[.string a0] rfl (by (try simp only [List.map_toArray, List.map_cons, List.map_nil]); first | done | rfl | (simp only [List.length_drop, List.length_take]; rfl)) ?_; (with_reducible refine (conchref1_Number.calls k1 a0 t154 t155 _ A13.out).mono ?_); rintro e w' ⟨rfl, ⟨nd, rfl⟩⟩; refine ⟨_, rfl, ?_⟩))
              go_ret
              exact ⟨by first | rfl | (simp [errW_none, errW_some] <;> rfl) | (simp [*, errW_none, errW_some] <;> rfl), by repeat (first | (with_reducible first | exact HB.out | apply below_alloc | apply pw_below_drewN | apply below_drew1) | exact HB.out)⟩
          · rw [if_neg c14] at H
            have c14b0 : (t152 == t154) = false := beq_eq_false_iff_ne.mpr c14
            have c14b1 : (t152 != t154) = true := bne_iff_ne.mpr c14
            obtain rfl := Option.some.inj H
            go_wp2_with (first | ((with_reducible refine gate_callee (f := 8) rfl ?_); refine goesL_ (some 35) rfl rfl Tryd.func8 (by kernel_rfl) rfl #[.string a0] rfl (by (try simp only [List.map_toArray, List.map_cons, List.map_nil]); first | done | rfl | (simp only [List.length_drop, List.length_take]; rfl)) ?_; (with_reducible refine (text_Number.calls k1 a0 t152 t153 _ A12.out).mono ?_); rintro e w' ⟨rfl, ⟨nd, rfl⟩⟩; refine ⟨_, rfl, ?_⟩) | ((with_reducible refine gate_callee (f := 12) rfl ?_); refine goesL_ (some 40) rfl rfl Tryd.func12 (by kernel_rfl) rfl #[.string a0] rfl (by (try simp only [List.map_toArray, List.map_cons, List.map_nil]); first | done | rfl | (simp only [List.length_drop, List.length_take]; rfl)) ?_; (with_reducible refine (conchref1_Number.calls k1 a0 t154 t155 _ A13.out).mono ?_); rintro e w' ⟨rfl, ⟨nd, rfl⟩⟩; refine ⟨_, rfl, ?_⟩))
            go_ret
            exact ⟨by first | rfl | (simp [errW_none, errW_some] <;> rfl) | (simp [*, errW_none, errW_some] <;> rfl), by repeat (first | (with_reducible first | exact HB.out | apply below_alloc | apply pw_below_drewN | apply below_drew1) | exact HB.out)⟩

/-- THE ONE PURE STATEMENT of conchlaw1_TextTells: yours. -/
def conchlaw1_TextTells.Pure : Prop := ∀ (a0 : ByteArray) (a1 : Int) (a2 : Int), a0.size ≤ 140737488351232 → (Lit.int .i64 a1).wf = true → (Lit.int .i64 a2).wf = true → ∃ k, conchlaw1_TextTells.f k a0 a1 a2 = some true
theorem conchlaw1_TextTells.walk (P : conchlaw1_TextTells.Pure) (a0 : ByteArray) (a1 : Int) (a2 : Int) (w : World) (w0 : a0.size ≤ 140737488351232) (w1 : (Lit.int .i64 a1).wf = true) (w2 : (Lit.int .i64 a2).wf = true) (HT : Aside0 (Go.Proofs.YthdndghhdiadiaaDoor.Tab.TabP w)) :
    Calls Tryd.prog 4 #[.string a0, .int .i64 a1, .int .i64 a2] w fun e w' => e = .returned (.bool true) ∧ Below w.heap.size w w' := by
  obtain ⟨k, h⟩ := P a0 a1 a2 w0 w1 w2
  refine (conchlaw1_TextTells.calls k a0 a1 a2 true w h).mono ?_
  rintro e w' ⟨rfl, hd⟩
  exact ⟨rfl, hd⟩

/-! ### conchlaw1_TextBack: function 5 -/
def conchlaw1_TextBack.l0 : Nat → Int → ByteArray → Int → Bool → Int → Bool → Bool → List ByteArray → ByteArray → Int → Option (Bool)
  | 0, _, _, _, _, _, _, _, _, _, _ => none
  | k + 1, x0, x1, x5, x6, x7, x8, x10, x11, x12, x13 => if x13 < (x11.length : Int) then (if 0 ≤ x13 then (if x12.size + (rdOf ByteArray.empty x11 x13).size ≤ 9223372036854775807 then (if (wrap64 (x13 + 1)) < (x11.length : Int) then (if (x12 ++ (rdOf ByteArray.empty x11 x13)).size + 1 ≤ 9223372036854775807 then (conchlaw1_TextBack.l0 k x0 x1 x5 x6 x7 x8 x10 x11 ((x12 ++ (rdOf ByteArray.empty x11 x13)) ++ (⟨#[10]⟩ : ByteArray)) (wrap64 (x13 + 1))) else (none)) else (if ((x12 ++ (rdOf ByteArray.empty x11 x13)).size : Int) < (x1.size : Int) then (if (x12 ++ (rdOf ByteArray.empty x11 x13)).size + 1 ≤ 9223372036854775807 then (conchlaw1_TextBack.l0 k x0 x1 x5 x6 x7 x8 x10 x11 ((x12 ++ (rdOf ByteArray.empty x11 x13)) ++ (⟨#[10]⟩ : ByteArray)) (wrap64 (x13 + 1))) else (none)) else (conchlaw1_TextBack.l0 k x0 x1 x5 x6 x7 x8 x10 x11 (x12 ++ (rdOf ByteArray.empty x11 x13)) (wrap64 (x13 + 1))))) else (none)) else (none)) else (if x6 = true then (if x5 = x0 then (if x8 = true then (if x7 = x0 then (if x10 = true then (some false) else (if x12.toList = x1.toList then ((conchlaw1_awake.f k).bind fun t182 => (some t182)) else (some false))) else (some false)) else (some false)) else (some false)) else (some false))
def conchlaw1_TextBack.f (k : Nat) (a0 : Int) (a1 : ByteArray) : Option (Bool) := if (a1.size : Int) > 400 then ((conchlaw1_awake.f k).bind fun t168 => (some t168)) else ((text_Digits.f (Go.bits .and .i64 a0 4611686018427387903)).bind fun t169 => ((text_Number.f k t169).bind fun bt170 => ((text_Digits.f (Go.bits .and .i64 a0 4611686018427387903)).bind fun t172 => (if 2 + t172.size ≤ 9223372036854775807 then ((text_Number.f k ((⟨#[48, 48]⟩ : ByteArray) ++ t172)).bind fun bt173 => ((text_Digits.f (wrap64 ((-1) - (Go.bits .and .i64 a0 4611686018427387903)))).bind fun t175 => ((text_Number.f k t175).bind fun bt176 => ((text_Lines.f a1).bind fun t178 => (conchlaw1_TextBack.l0 k (Go.bits .and .i64 a0 4611686018427387903) a1 bt170.1 bt170.2 bt173.1 bt173.2 bt176.2 t178 (⟨#[]⟩ : ByteArray) 0))))) else (none)))))
theorem conchlaw1_TextBack.mono_l : ∀ k, (∀ y0 y1 y2 y3 y4 y5 y6 y7 y8 y9, LeO (conchlaw1_TextBack.l0 k y0 y1 y2 y3 y4 y5 y6 y7 y8 y9) (conchlaw1_TextBack.l0 (k + 1) y0 y1 y2 y3 y4 y5 y6 y7 y8 y9))
  | 0 => fun _ _ _ _ _ _ _ _ _ _ r h => by simp [conchlaw1_TextBack.l0] at h
  | k + 1 => by
    have ih0 := conchlaw1_TextBack.mono_l k
    · intro y0 y1 y2 y3 y4 y5 y6 y7 y8 y9
      unfold conchlaw1_TextBack.l0
      repeat' first
      | (with_reducible exact ih0 _ _ _ _ _ _ _ _ _ _)
      | (with_reducible exact conchlaw1_awake.mono _)
      | (with_reducible exact text_Number.mono _ _)
      | (with_reducible exact LeO.refl _)
      | (with_reducible exact LeO.none _)
      | (with_reducible refine LeO.ite ?_ ?_)
      | (with_reducible refine LeO.bind ?_ (fun _ => ?_))
      | exact ih0 _ _ _ _ _ _ _ _ _ _
      | exact conchlaw1_awake.mono _
      | exact text_Number.mono _ _
      | exact LeO.none _
      | refine LeO.ite ?_ ?_
      | refine LeO.bind ?_ (fun _ => ?_)
theorem conchlaw1_TextBack.mono : ∀ a0 a1 k, LeO (conchlaw1_TextBack.f k a0 a1) (conchlaw1_TextBack.f (k + 1) a0 a1) := by
  intro a0 a1 k
  have ih0 := conchlaw1_TextBack.mono_l k
  unfold conchlaw1_TextBack.f
  repeat' first
      | (with_reducible exact ih0 _ _ _ _ _ _ _ _ _ _)
      | (with_reducible exact conchlaw1_awake.mono _)
      | (with_reducible exact text_Number.mono _ _)
      | (with_reducible exact LeO.refl _)
      | (with_reducible exact LeO.none _)
      | (with_reducible refine LeO.ite ?_ ?_)
      | (with_reducible refine LeO.bind ?_ (fun _ => ?_))
      | exact ih0 _ _ _ _ _ _ _ _ _ _
      | exact conchlaw1_awake.mono _
      | exact text_Number.mono _ _
      | exact LeO.none _
      | refine LeO.ite ?_ ?_
      | refine LeO.bind ?_ (fun _ => ?_)
set_option maxHeartbeats 8000000 in
set_option maxRecDepth 100000 in
theorem conchlaw1_TextBack.calls (k : Nat) (a0 : Int) (a1 : ByteArray) (r : Bool) (w : World) (h : conchlaw1_TextBack.f k a0 a1 = some r) (HT : Aside0 (Go.Proofs.YthdndghhdiadiaaDoor.Tab.TabP w) := by first | exact HT | exact Go.Proofs.YthdndghhdiadiaaDoor.Tab.tabs_step HT (by repeat (first | (with_reducible first | exact HB.out | apply below_alloc | apply pw_below_drewN | apply below_drew1) | exact HB.out))) :
    Calls Tryd.prog 5 #[.int .i64 a0, .string a1] w fun e w' => e = .returned (.bool r) ∧ Below w.heap.size w w' := by
  have HB := Aside0.mk (Below.refl w.heap.size w)
  have H : (if (a1.size : Int) > 400 then ((conchlaw1_awake.f k).bind fun t168 => (some t168)) else ((text_Digits.f (Go.bits .and .i64 a0 4611686018427387903)).bind fun t169 => ((text_Number.f k t169).bind fun bt170 => ((text_Digits.f (Go.bits .and .i64 a0 4611686018427387903)).bind fun t172 => (if 2 + t172.size ≤ 9223372036854775807 then ((text_Number.f k ((⟨#[48, 48]⟩ : ByteArray) ++ t172)).bind fun bt173 => ((text_Digits.f (wrap64 ((-1) - (Go.bits .and .i64 a0 4611686018427387903)))).bind fun t175 => ((text_Number.f k t175).bind fun bt176 => ((text_Lines.f a1).bind fun t178 => (conchlaw1_TextBack.l0 k (Go.bits .and .i64 a0 4611686018427387903) a1 bt170.1 bt170.2 bt173.1 bt173.2 bt176.2 t178 (⟨#[]⟩ : ByteArray) 0))))) else (none)))))) = some r := h
  clear h
  by_cases c3 : (a1.size : Int) > 400
  · rw [if_pos c3] at H
    have c3b0 : decide (400 < (a1.size : Int)) = true := decide_eq_true c3
    have c3b1 : decide (400 < a1.size) = true := decide_eq_true (by omega)
    clear c3
    replace H := Option.bind_eq_some_iff.mp H
    obtain ⟨t168, A40, H⟩ := H
    replace H : (some t168) = some r := H
    have A4 := Aside0.mk A40
    clear A40
    obtain rfl := Option.some.inj H
    go_enter Tryd.func5, Tryd.ntmps5
    go_wp2_with (first | ((with_reducible refine gate_callee (f := 9) rfl ?_); refine goesL_ (some 17) rfl rfl Tryd.func9 (by kernel_rfl) rfl #[] rfl (by (try simp only [List.map_toArray, List.map_cons, List.map_nil]); first | done | rfl | (simp only [List.length_drop, List.length_take]; rfl)) ?_; (with_reducible refine (conchlaw1_awake.calls k  t168 _ A4.out).mono ?_); rintro e w5 ⟨rfl, hb⟩; refine ⟨_, rfl, ?_⟩; have n0_ := Aside0.mk (below_step (by repeat (first | (with_reducible first | exact HB.out | apply below_alloc | apply pw_below_drewN | apply below_drew1) | exact HB.out)) hb); clear HB; have HB := n0_; clear n0_; (try clear hb); (try clear hb2); (try clear hk); (try clear hi)))
    go_ret
    exact ⟨by first | rfl | (simp [errW_none, errW_some] <;> rfl) | (simp [*, errW_none, errW_some] <;> rfl), by repeat (first | (with_reducible first | exact HB.out | apply below_alloc | apply pw_below_drewN | apply below_drew1) | exact HB.out)⟩
  · rw [if_neg c3] at H
    have c3b0 : decide (400 < (a1.size : Int)) = false := decide_eq_false c3
    have c3b1 : decide (400 < a1.size) = false := decide_eq_false (by omega)
    clear c3
    replace H := Option.bind_eq_some_iff.mp H
    obtain ⟨t169, A60, H⟩ := H
    replace H : ((text_Number.f k t169).bind fun bt170 => ((text_Digits.f (Go.bits .and .i64 a0 4611686018427387903)).bind fun t172 => (if 2 + t172.size ≤ 9223372036854775807 then ((text_Number.f k ((⟨#[48, 48]⟩ : ByteArray) ++ t172)).bind fun bt173 => ((text_Digits.f (wrap64 ((-1) - (Go.bits .and .i64 a0 4611686018427387903)))).bind fun t175 => ((text_Number.f k t175).bind fun bt176 => ((text_Lines.f a1).bind fun t178 => (conchlaw1_TextBack.l0 k (Go.bits .and .i64 a0 4611686018427387903) a1 bt170.1 bt170.2 bt173.1 bt173.2 bt176.2 t178 (⟨#[]⟩ : ByteArray) 0))))) else (none)))) = some r := H
    have A6 := Aside0.mk A60
    clear A60
    replace H := Option.bind_eq_some_iff.mp H
    obtain ⟨⟨t170, t171⟩, A70, H⟩ := H
    replace H : ((text_Digits.f (Go.bits .and .i64 a0 4611686018427387903)).bind fun t172 => (if 2 + t172.size ≤ 9223372036854775807 then ((text_Number.f k ((⟨#[48, 48]⟩ : ByteArray) ++ t172)).bind fun bt173 => ((text_Digits.f (wrap64 ((-1) - (Go.bits .and .i64 a0 4611686018427387903)))).bind fun t175 => ((text_Number.f k t175).bind fun bt176 => ((text_Lines.f a1).bind fun t178 => (conchlaw1_TextBack.l0 k (Go.bits .and .i64 a0 4611686018427387903) a1 t170 t171 bt173.1 bt173.2 bt176.2 t178 (⟨#[]⟩ : ByteArray) 0))))) else (none))) = some r := H
    have A7 := Aside0.mk A70
    clear A70
    replace H := Option.bind_eq_some_iff.mp H
    obtain ⟨t172, A80, H⟩ := H
    replace H : (if 2 + t172.size ≤ 9223372036854775807 then ((text_Number.f k ((⟨#[48, 48]⟩ : ByteArray) ++ t172)).bind fun bt173 => ((text_Digits.f (wrap64 ((-1) - (Go.bits .and .i64 a0 4611686018427387903)))).bind fun t175 => ((text_Number.f k t175).bind fun bt176 => ((text_Lines.f a1).bind fun t178 => (conchlaw1_TextBack.l0 k (Go.bits .and .i64 a0 4611686018427387903) a1 t170 t171 bt173.1 bt173.2 bt176.2 t178 (⟨#[]⟩ : ByteArray) 0))))) else (none)) = some r := H
    have A8 := Aside0.mk A80
    clear A80
    by_cases c9 : 2 + t172.size ≤ 9223372036854775807
    · rw [if_pos c9] at H
      have c9b0 := eq_true c9
      have c9b1 : decide (2 + t172.size ≤ 9223372036854775807) = true := decide_eq_true c9
      try have c9b2 : (9223372036854775807 < 2 + t172.size) = False := eq_false (Nat.not_lt.2 c9)
      replace H := Option.bind_eq_some_iff.mp H
      obtain ⟨⟨t173, t174⟩, A100, H⟩ := H
      replace H : ((text_Digits.f (wrap64 ((-1) - (Go.bits .and .i64 a0 4611686018427387903)))).bind fun t175 => ((text_Number.f k t175).bind fun bt176 => ((text_Lines.f a1).bind fun t178 => (conchlaw1_TextBack.l0 k (Go.bits .and .i64 a0 4611686018427387903) a1 t170 t171 t173 t174 bt176.2 t178 (⟨#[]⟩ : ByteArray) 0)))) = some r := H
      have A10 := Aside0.mk A100
      clear A100
      replace H := Option.bind_eq_some_iff.mp H
      obtain ⟨t175, A110, H⟩ := H
      replace H : ((text_Number.f k t175).bind fun bt176 => ((text_Lines.f a1).bind fun t178 => (conchlaw1_TextBack.l0 k (Go.bits .and .i64 a0 4611686018427387903) a1 t170 t171 t173 t174 bt176.2 t178 (⟨#[]⟩ : ByteArray) 0))) = some r := H
      have A11 := Aside0.mk A110
      clear A110
      replace H := Option.bind_eq_some_iff.mp H
      obtain ⟨⟨t176, t177⟩, A120, H⟩ := H
      replace H : ((text_Lines.f a1).bind fun t178 => (conchlaw1_TextBack.l0 k (Go.bits .and .i64 a0 4611686018427387903) a1 t170 t171 t173 t174 t177 t178 (⟨#[]⟩ : ByteArray) 0)) = some r := H
      have A12 := Aside0.mk A120
      clear A120
      replace H := Option.bind_eq_some_iff.mp H
      obtain ⟨t178, A130, H⟩ := H
      replace H : (conchlaw1_TextBack.l0 k (Go.bits .and .i64 a0 4611686018427387903) a1 t170 t171 t173 t174 t177 t178 (⟨#[]⟩ : ByteArray) 0) = some r := H
      have A13 := Aside0.mk A130
      clear A130
      have H' := Aside0.mk H
      clear H
      go_enter Tryd.func5, Tryd.ntmps5
      go_wp2_with (first | ((with_reducible refine gate_callee (f := 7) rfl ?_); refine goesL_ (some 22) rfl rfl Tryd.func7 (by kernel_rfl) rfl #[.int .i64 (Go.bits .and .i64 a0 4611686018427387903)] rfl (by (try simp only [List.map_toArray, List.map_cons, List.map_nil]); first | done | rfl | (simp only [List.length_drop, List.length_take]; rfl)) ?_; (with_reducible refine (text_Digits.calls (Go.bits .and .i64 a0 4611686018427387903) t169 _ A6.out).mono ?_); rintro e w14 ⟨rfl, hb⟩; refine ⟨_, rfl, ?_⟩; have n0_ := Aside0.mk (below_step (by repeat (first | (with_reducible first | exact HB.out | apply below_alloc | apply pw_below_drewN | apply below_drew1) | exact HB.out)) hb); clear HB; have HB := n0_; clear n0_; (try clear hb); (try clear hb2); (try clear hk); (try clear hi)) | ((with_reducible refine gate_callee (f := 8) rfl ?_); refine goesL_ (some 23) rfl rfl Tryd.func8 (by kernel_rfl) rfl #[.string t169] rfl (by (try simp only [List.map_toArray, List.map_cons, List.map_nil]); first | done | rfl | (simp only [List.length_drop, List.length_take]; rfl)) ?_; (with_reducible refine (text_Number.calls k t169 t170 t171 _ A7.out).mono ?_); rintro e w' ⟨rfl, ⟨nd, rfl⟩⟩; refine ⟨_, rfl, ?_⟩) | ((with_reducible refine gate_callee (f := 7) rfl ?_); refine goesL_ (some 28) rfl rfl Tryd.func7 (by kernel_rfl) rfl #[.int .i64 (Go.bits .and .i64 a0 4611686018427387903)] rfl (by (try simp only [List.map_toArray, List.map_cons, List.map_nil]); first | done | rfl | (simp only [List.length_drop, List.length_take]; rfl)) ?_; (with_reducible refine (text_Digits.calls (Go.bits .and .i64 a0 4611686018427387903) t172 _ A8.out).mono ?_); rintro e w15 ⟨rfl, hb⟩; refine ⟨_, rfl, ?_⟩; have n0_ := Aside0.mk (below_step (by repeat (first | (with_reducible first | exact HB.out | apply below_alloc | apply pw_below_drewN | apply below_drew1) | exact HB.out)) hb); clear HB; have HB := n0_; clear n0_; (try clear hb); (try clear hb2); (try clear hk); (try clear hi)) | ((with_reducible refine gate_callee (f := 8) rfl ?_); refine goesL_ (some 30) rfl rfl Tryd.func8 (by kernel_rfl) rfl #[.string ((⟨#[48, 48]⟩ : ByteArray) ++ t172)] rfl (by (try simp only [List.map_toArray, List.map_cons, List.map_nil]); first | done | rfl | (simp only [List.length_drop, List.length_take]; rfl)) ?_; (with_reducible refine (text_Number.calls k ((⟨#[48, 48]⟩ : ByteArray) ++ t172) t173 t174 _ A10.out).mono ?_); rintro e w' ⟨rfl, ⟨nd, rfl⟩⟩; refine ⟨_, rfl, ?_⟩) | ((with_reducible refine gate_callee (f := 7) rfl ?_); refine goesL_ (some 36) rfl rfl Tryd.func7 (by kernel_rfl) rfl #[.int .i64 (wrap64 ((-1) - (Go.bits .and .i64 a0 4611686018427387903)))] rfl (by (try simp only [List.map_toArray, List.map_cons, List.map_nil]); first | done | rfl | (simp only [List.length_drop, List.length_take]; rfl)) ?_; (with_reducible refine (text_Digits.calls (wrap64 ((-1) - (Go.bits .and .i64 a0 4611686018427387903))) t175 _ A11.out).mono ?_); rintro e w16 ⟨rfl, hb⟩; refine ⟨_, rfl, ?_⟩; have n0_ := Aside0.mk (below_step (by repeat (first | (with_reducible first | exact HB.out | apply below_alloc | apply pw_below_drewN | apply below_drew1) | exact HB.out)) hb); clear HB; have HB := n0_; clear n0_; (try clear hb); (try clear hb2); (try clear hk); (try clear hi)) | ((with_reducible refine gate_callee (f := 8) rfl ?_); refine goesL_ (some 37) rfl rfl Tryd.func8 (by kernel_rfl) rfl #[.string t175] rfl (by (try simp only [List.map_toArray, List.map_cons, List.map_nil]); first | done | rfl | (simp only [List.length_drop, List.length_take]; rfl)) ?_; (with_reducible refine (text_Number.calls k t175 t176 t177 _ A12.out).mono ?_); rintro e w' ⟨rfl, ⟨nd, rfl⟩⟩; refine ⟨_, rfl, ?_⟩) | ((with_reducible refine gate_callee (f := 17) rfl ?_); refine goesL_ (some 41) rfl rfl Tryd.func17 (by kernel_rfl) rfl #[.string a1] rfl (by (try simp only [List.map_toArray, List.map_cons, List.map_nil]); first | done | rfl | (simp only [List.length_drop, List.length_take]; rfl)) ?_; (with_reducible refine (text_Lines.calls a1 t178 _ A13.out).mono ?_); rintro e w17 ⟨v179, rfl, ho0, hb⟩; refine ⟨_, rfl, ?_⟩; have n0_ := Aside0.mk (Kd.R_lower ho0 (below_size (by repeat (first | (with_reducible first | exact HB.out | apply below_alloc | apply pw_below_drewN | apply below_drew1) | exact HB.out)))); have n1_ := Aside0.mk (below_step (by repeat (first | (with_reducible first | exact HB.out | apply below_alloc | apply pw_below_drewN | apply below_drew1) | exact HB.out)) hb); clear HB; have HO180 := n0_; have HB := n1_; clear n0_ n1_; (try clear hb); (try clear hb2); (try clear hk); (try clear hi); (try clear ho0)))
      go_loopg [12, 13] k (fun kq v12 v13 w' => ∃ (x12_1 : ByteArray) (x13_1 : Int), v12 = .string x12_1 ∧ v13 = .int .i64 x13_1 ∧ Aside0 (conchlaw1_TextBack.l0 kq (Go.bits .and .i64 a0 4611686018427387903) a1 t170 t171 t173 t174 t177 t178 x12_1 x13_1 = some r) ∧ Aside0 (kq ≤ k) ∧ Aside0 (Kd.R Kd.string 9 w' w.heap.size (fun _ => True) v179 t178) ∧ Aside0 (Below w.heap.size w w'))
      case atStart => exact ⟨((⟨#[]⟩ : ByteArray)), (0), (by first | rfl | (simp; done) | (simp [*]; done)), (by first | rfl | (simp; done) | (simp [*]; done)), H', ⟨Nat.le_refl _⟩, ⟨by (with_reducible repeat (first | apply Kd.R_alloc | apply Kd.R_drewN | apply Kd.R_drew)); exact HO180.out⟩, ⟨by repeat (first | (with_reducible first | exact HB.out | apply below_alloc | apply pw_below_drewN | apply below_drew1) | exact HB.out)⟩⟩
      case round =>
        clear H'
        try clear c1
        try clear p2
        try clear c3
        try clear c3b0
        try clear c3b1
        try clear c5
        try clear p6
        try clear c7
        try clear c8
        try clear c9
        try clear c9b0
        try clear c9b1
        try clear c9b2
        try clear c17
        obtain ⟨x12_1, x13_1, rfl, rfl, HA, HK1, HO_11, HB⟩ := hrel
        cases gk with
        | zero => exact absurd HA.out (by simp [conchlaw1_TextBack.l0])
        | succ k1 =>
          have H := HA.out
          clear HA
          simp only [conchlaw1_TextBack.l0] at H
          by_cases c18 : x13_1 < (t178.length : Int)
          · rw [if_pos c18] at H
            have c18b0 : decide (x13_1 < (t178.length : Int)) = true := decide_eq_true c18
            clear c18
            by_cases c19 : 0 ≤ x13_1
            · rw [if_pos c19] at H
              have c19b0 : decide (0 ≤ x13_1) = true := decide_eq_true c19
              clear c19
              by_cases c20 : x12_1.size + (rdOf ByteArray.empty t178 x13_1).size ≤ 9223372036854775807
              · rw [if_pos c20] at H
                have c20b0 := eq_true c20
                have c20b1 : decide (x12_1.size + (rdOf ByteArray.empty t178 x13_1).size ≤ 9223372036854775807) = true := decide_eq_true c20
                try have c20b2 : (9223372036854775807 < x12_1.size + (rdOf ByteArray.empty t178 x13_1).size) = False := eq_false (Nat.not_lt.2 c20)
                by_cases c21 : (wrap64 (x13_1 + 1)) < (t178.length : Int)
                · rw [if_pos c21] at H
                  have c21b0 : decide ((wrap64 (x13_1 + 1)) < (t178.length : Int)) = true := decide_eq_true c21
                  clear c21
                  by_cases c22 : (x12_1 ++ (rdOf ByteArray.empty t178 x13_1)).size + 1 ≤ 9223372036854775807
                  · rw [if_pos c22] at H
                    have c22b0 := eq_true c22
                    have c22b1 : decide ((x12_1 ++ (rdOf ByteArray.empty t178 x13_1)).size + 1 ≤ 9223372036854775807) = true := decide_eq_true c22
                    try (have c22b1a := c22b1; simp only [ByteArray.size_append] at c22b1a)
                    try (have c22b1i := c22b1; simp only [ByteArray.size_append, Int.natCast_add] at c22b1i)
                    try have c22b2 : (9223372036854775807 < (x12_1 ++ (rdOf ByteArray.empty t178 x13_1)).size + 1) = False := eq_false (Nat.not_lt.2 c22)
                    try (have c22b2a := c22b2; simp only [ByteArray.size_append] at c22b2a)
                    try (have c22b2i := c22b2; simp only [ByteArray.size_append, Int.natCast_add] at c22b2i)
                    try have c22b9 : (9223372036854775807 < x12_1.size + (rdOf ByteArray.empty t178 x13_1).size + 1) = False := eq_false (by have h_ := c22; simp only [ByteArray.size_append, ByteArray.size_extract, Nat.min_self] at h_; first | omega | (simp at h_; omega))
                    have H' := Aside0.mk H
                    clear H
                    obtain ⟨Ao23, co23, eo23⟩ := Kd.R_slice HO_11.out
                    subst eo23
                    have p181 : 0 ≤ (x13_1 : Int) := of_decide_eq_true (by first | (with_reducible assumption) | assumption)
                    have q181 : x13_1 < (t178.length : Int) := of_decide_eq_true (by first | (with_reducible assumption) | assumption)
                    obtain ⟨ad181, e181, hx181_0⟩ := Kd.at_string (Kd.R_reads' HO_11.out).2.2 x13_1 p181 q181
                    cases e181
                    replace p181 := eq_true p181
                    replace q181 := eq_true q181
                    go_wp2
                    go_roundg k1
                    case measure => have := HK1.out; omega
                    case rel => exact ⟨((x12_1 ++ (rdOf ByteArray.empty t178 x13_1)) ++ (⟨#[10]⟩ : ByteArray)), (wrap64 (x13_1 + 1)), (by first | rfl | (simp; done) | (simp [*]; done)), (by first | rfl | (simp; done) | (simp [*]; done)), H', ⟨by have := HK1.out; omega⟩, ⟨by (with_reducible repeat (first | apply Kd.R_alloc | apply Kd.R_drewN | apply Kd.R_drew)); exact HO_11.out⟩, ⟨by repeat (first | (with_reducible first | exact HB.out | apply below_alloc | apply pw_below_drewN | apply below_drew1) | exact HB.out)⟩⟩
                  · rw [if_neg c22] at H
                    exact absurd H (by simp)
                · rw [if_neg c21] at H
                  have c21b0 : decide ((wrap64 (x13_1 + 1)) < (t178.length : Int)) = false := decide_eq_false c21
                  clear c21
                  by_cases c24 : ((x12_1 ++ (rdOf ByteArray.empty t178 x13_1)).size : Int) < (a1.size : Int)
                  · rw [if_pos c24] at H
                    have c24b0 : decide (((x12_1 ++ (rdOf ByteArray.empty t178 x13_1)).size : Int) < (a1.size : Int)) = true := decide_eq_true c24
                    try (have c24b0a := c24b0; simp only [ByteArray.size_append] at c24b0a)
                    try (have c24b0i := c24b0; simp only [ByteArray.size_append, Int.natCast_add] at c24b0i)
                    have c24b1 : decide ((x12_1 ++ (rdOf ByteArray.empty t178 x13_1)).size < a1.size) = true := decide_eq_true (Int.ofNat_lt.mp c24)
                    try (have c24b1a := c24b1; simp only [ByteArray.size_append] at c24b1a)
                    try (have c24b1i := c24b1; simp only [ByteArray.size_append, Int.natCast_add] at c24b1i)
                    clear c24
                    by_cases c25 : (x12_1 ++ (rdOf ByteArray.empty t178 x13_1)).size + 1 ≤ 9223372036854775807
                    · rw [if_pos c25] at H
                      have c25b0 := eq_true c25
                      have c25b1 : decide ((x12_1 ++ (rdOf ByteArray.empty t178 x13_1)).size + 1 ≤ 9223372036854775807) = true := decide_eq_true c25
                      try (have c25b1a := c25b1; simp only [ByteArray.size_append] at c25b1a)
                      try (have c25b1i := c25b1; simp only [ByteArray.size_append, Int.natCast_add] at c25b1i)
                      try have c25b2 : (9223372036854775807 < (x12_1 ++ (rdOf ByteArray.empty t178 x13_1)).size + 1) = False := eq_false (Nat.not_lt.2 c25)
                      try (have c25b2a := c25b2; simp only [ByteArray.size_append] at c25b2a)
                      try (have c25b2i := c25b2; simp only [ByteArray.size_append, Int.natCast_add] at c25b2i)
                      try have c25b9 : (9223372036854775807 < x12_1.size + (rdOf ByteArray.empty t178 x13_1).size + 1) = False := eq_false (by have h_ := c25; simp only [ByteArray.size_append, ByteArray.size_extract, Nat.min_self] at h_; first | omega | (simp at h_; omega))
                      have H' := Aside0.mk H
                      clear H
                      obtain ⟨Ao26, co26, eo26⟩ := Kd.R_slice HO_11.out
                      subst eo26
                      have p181 : 0 ≤ (x13_1 : Int) := of_decide_eq_true (by first | (with_reducible assumption) | assumption)
                      have q181 : x13_1 < (t178.length : Int) := of_decide_eq_true (by first | (with_reducible assumption) | assumption)
                      obtain ⟨ad181, e181, hx181_0⟩ := Kd.at_string (Kd.R_reads' HO_11.out).2.2 x13_1 p181 q181
                      cases e181
                      replace p181 := eq_true p181
                      replace q181 := eq_true q181
                      go_wp2
                      go_roundg k1
                      case measure => have := HK1.out; omega
                      case rel => exact ⟨((x12_1 ++ (rdOf ByteArray.empty t178 x13_1)) ++ (⟨#[10]⟩ : ByteArray)), (wrap64 (x13_1 + 1)), (by first | rfl | (simp; done) | (simp [*]; done)), (by first | rfl | (simp; done) | (simp [*]; done)), H', ⟨by have := HK1.out; omega⟩, ⟨by (with_reducible repeat (first | apply Kd.R_alloc | apply Kd.R_drewN | apply Kd.R_drew)); exact HO_11.out⟩, ⟨by repeat (first | (with_reducible first | exact HB.out | apply below_alloc | apply pw_below_drewN | apply below_drew1) | exact HB.out)⟩⟩
                    · rw [if_neg c25] at H
                      exact absurd H (by simp)
                  · rw [if_neg c24] at H
                    have c24b0 : decide (((x12_1 ++ (rdOf ByteArray.empty t178 x13_1)).size : Int) < (a1.size : Int)) = false := decide_eq_false c24
                    try (have c24b0a := c24b0; simp only [ByteArray.size_append] at c24b0a)
                    try (have c24b0i := c24b0; simp only [ByteArray.size_append, Int.natCast_add] at c24b0i)
                    have c24b1 : decide ((x12_1 ++ (rdOf ByteArray.empty t178 x13_1)).size < a1.size) = false := decide_eq_false (fun h => c24 (Int.ofNat_lt.mpr h))
                    try (have c24b1a := c24b1; simp only [ByteArray.size_append] at c24b1a)
                    try (have c24b1i := c24b1; simp only [ByteArray.size_append, Int.natCast_add] at c24b1i)
                    clear c24
                    have H' := Aside0.mk H
                    clear H
                    obtain ⟨Ao27, co27, eo27⟩ := Kd.R_slice HO_11.out
                    subst eo27
                    have p181 : 0 ≤ (x13_1 : Int) := of_decide_eq_true (by first | (with_reducible assumption) | assumption)
                    have q181 : x13_1 < (t178.length : Int) := of_decide_eq_true (by first | (with_reducible assumption) | assumption)
                    obtain ⟨ad181, e181, hx181_0⟩ := Kd.at_string (Kd.R_reads' HO_11.out).2.2 x13_1 p181 q181
                    cases e181
                    replace p181 := eq_true p181
                    replace q181 := eq_true q181
                    go_wp2
                    go_roundg k1
                    case measure => have := HK1.out; omega
                    case rel => exact ⟨(x12_1 ++ (rdOf ByteArray.empty t178 x13_1)), (wrap64 (x13_1 + 1)), (by first | rfl | (simp; done) | (simp [*]; done)), (by first | rfl | (simp; done) | (simp [*]; done)), H', ⟨by have := HK1.out; omega⟩, ⟨by (with_reducible repeat (first | apply Kd.R_alloc | apply Kd.R_drewN | apply Kd.R_drew)); exact HO_11.out⟩, ⟨by repeat (first | (with_reducible first | exact HB.out | apply below_alloc | apply pw_below_drewN | apply below_drew1) | exact HB.out)⟩⟩
              · rw [if_neg c20] at H
                exact absurd H (by simp)
            · rw [if_neg c19] at H
              exact absurd H (by simp)
          · rw [if_neg c18] at H
            have c18b0 : decide (x13_1 < (t178.length : Int)) = false := decide_eq_false c18
            clear c18
            by_cases c28 : t171 = true
            · subst c28
              have H1 : (if t170 = (Go.bits .and .i64 a0 4611686018427387903) then (if t174 = true then (if t173 = (Go.bits .and .i64 a0 4611686018427387903) then (if t177 = true then (some false) else (if x12_1.toList = a1.toList then ((conchlaw1_awake.f k1).bind fun t182 => (some t182)) else (some false))) else (some false)) else (some false)) else (some false)) = some r := by rw [if_pos rfl] at H; exact H
              clear H
              have H := H1
              clear H1
              by_cases c29 : t170 = (Go.bits .and .i64 a0 4611686018427387903)
              · rw [if_pos c29] at H
                have c29b0 : (t170 == (Go.bits .and .i64 a0 4611686018427387903)) = true := beq_iff_eq.mpr c29
                have c29b1 : (t170 != (Go.bits .and .i64 a0 4611686018427387903)) = false := bne_eq_false_iff_eq.mpr c29
                clear c29
                by_cases c30 : t174 = true
                · subst c30
                  have H1 : (if t173 = (Go.bits .and .i64 a0 4611686018427387903) then (if t177 = true then (some false) else (if x12_1.toList = a1.toList then ((conchlaw1_awake.f k1).bind fun t182 => (some t182)) else (some false))) else (some false)) = some r := by rw [if_pos rfl] at H; exact H
                  clear H
                  have H := H1
                  clear H1
                  by_cases c31 : t173 = (Go.bits .and .i64 a0 4611686018427387903)
                  · rw [if_pos c31] at H
                    have c31b0 : (t173 == (Go.bits .and .i64 a0 4611686018427387903)) = true := beq_iff_eq.mpr c31
                    have c31b1 : (t173 != (Go.bits .and .i64 a0 4611686018427387903)) = false := bne_eq_false_iff_eq.mpr c31
                    clear c31
                    by_cases c32 : t177 = true
                    · subst c32
                      have H1 : (some false) = some r := by rw [if_pos rfl] at H; exact H
                      clear H
                      have H := H1
                      clear H1
                      obtain rfl := Option.some.inj H
                      obtain ⟨Ao33, co33, eo33⟩ := Kd.R_slice HO_11.out
                      subst eo33
                      go_wp2
                      go_ret
                      exact ⟨by first | rfl | (simp [errW_none, errW_some] <;> rfl) | (simp [*, errW_none, errW_some] <;> rfl), by repeat (first | (with_reducible first | exact HB.out | apply below_alloc | apply pw_below_drewN | apply below_drew1) | exact HB.out)⟩
                    · replace c32 := Bool.eq_false_iff.mpr c32
                      subst c32
                      have H1 : (if x12_1.toList = a1.toList then ((conchlaw1_awake.f k1).bind fun t182 => (some t182)) else (some false)) = some r := by rw [if_neg (show ¬ (false = true) by decide)] at H; exact H
                      clear H
                      have H := H1
                      clear H1
                      by_cases c34 : x12_1.toList = a1.toList
                      · rw [if_pos c34] at H
                        have c34b0 : (x12_1.toList == a1.toList) = true := beq_iff_eq.mpr c34
                        have c34b1 : (x12_1.toList != a1.toList) = false := bne_eq_false_iff_eq.mpr c34
                        clear c34
                        replace H := Option.bind_eq_some_iff.mp H
                        obtain ⟨t182, A350, H⟩ := H
                        replace H : (some t182) = some r := H
                        have A35 := Aside0.mk A350
                        clear A350
                        obtain rfl := Option.some.inj H
                        obtain ⟨Ao36, co36, eo36⟩ := Kd.R_slice HO_11.out
                        subst eo36
                        go_wp2_with (first | (go_at_call 9; (with_reducible refine (conchlaw1_awake.calls k1  t182 _ A35.out).mono ?_); rintro e w37 ⟨rfl, hb⟩; have n0_ := Aside0.mk (Kd.R_below (by (with_reducible repeat (first | apply Kd.R_alloc | apply Kd.R_drewN | apply Kd.R_drew)); exact HO_11.out) hb); have n1_ := Aside0.mk (below_step (by repeat (first | (with_reducible first | exact HB.out | apply below_alloc | apply pw_below_drewN | apply below_drew1) | exact HB.out)) hb); clear HO_11; clear HB; have HO_11 := n0_; have HB := n1_; clear n0_ n1_; (try clear hb); (try clear hb2); (try clear hk); (try clear hi)))
                        go_ret
                        exact ⟨by first | rfl | (simp [errW_none, errW_some] <;> rfl) | (simp [*, errW_none, errW_some] <;> rfl), by repeat (first | (with_reducible first | exact HB.out | apply below_alloc | apply pw_below_drewN | apply below_drew1) | exact HB.out)⟩
                      · rw [if_neg c34] at H
                        have c34b0 : (x12_1.toList == a1.toList) = false := beq_eq_false_iff_ne.mpr c34
                        have c34b1 : (x12_1.toList != a1.toList) = true := bne_iff_ne.mpr c34
                        obtain rfl := Option.some.inj H
                        obtain ⟨Ao38, co38, eo38⟩ := Kd.R_slice HO_11.out
                        subst eo38
                        go_wp2
                        go_ret
                        exact ⟨by first | rfl | (simp [errW_none, errW_some] <;> rfl) | (simp [*, errW_none, errW_some] <;> rfl), by repeat (first | (with_reducible first | exact HB.out | apply below_alloc | apply pw_below_drewN | apply below_drew1) | exact HB.out)⟩
                  · rw [if_neg c31] at H
                    have c31b0 : (t173 == (Go.bits .and .i64 a0 4611686018427387903)) = false := beq_eq_false_iff_ne.mpr c31
                    have c31b1 : (t173 != (Go.bits .and .i64 a0 4611686018427387903)) = true := bne_iff_ne.mpr c31
                    obtain rfl := Option.some.inj H
                    obtain ⟨Ao39, co39, eo39⟩ := Kd.R_slice HO_11.out
                    subst eo39
                    go_wp2
                    go_ret
                    exact ⟨by first | rfl | (simp [errW_none, errW_some] <;> rfl) | (simp [*, errW_none, errW_some] <;> rfl), by repeat (first | (with_reducible first | exact HB.out | apply below_alloc | apply pw_below_drewN | apply below_drew1) | exact HB.out)⟩
                · replace c30 := Bool.eq_false_iff.mpr c30
                  subst c30
                  have H1 : (some false) = some r := by rw [if_neg (show ¬ (false = true) by decide)] at H; exact H
                  clear H
                  have H := H1
                  clear H1
                  obtain rfl := Option.some.inj H
                  obtain ⟨Ao40, co40, eo40⟩ := Kd.R_slice HO_11.out
                  subst eo40
                  go_wp2
                  go_ret
                  exact ⟨by first | rfl | (simp [errW_none, errW_some] <;> rfl) | (simp [*, errW_none, errW_some] <;> rfl), by repeat (first | (with_reducible first | exact HB.out | apply below_alloc | apply pw_below_drewN | apply below_drew1) | exact HB.out)⟩
              · rw [if_neg c29] at H
                have c29b0 : (t170 == (Go.bits .and .i64 a0 4611686018427387903)) = false := beq_eq_false_iff_ne.mpr c29
                have c29b1 : (t170 != (Go.bits .and .i64 a0 4611686018427387903)) = true := bne_iff_ne.mpr c29
                obtain rfl := Option.some.inj H
                obtain ⟨Ao41, co41, eo41⟩ := Kd.R_slice HO_11.out
                subst eo41
                go_wp2
                go_ret
                exact ⟨by first | rfl | (simp [errW_none, errW_some] <;> rfl) | (simp [*, errW_none, errW_some] <;> rfl), by repeat (first | (with_reducible first | exact HB.out | apply below_alloc | apply pw_below_drewN | apply below_drew1) | exact HB.out)⟩
            · replace c28 := Bool.eq_false_iff.mpr c28
              subst c28
              have H1 : (some false) = some r := by rw [if_neg (show ¬ (false = true) by decide)] at H; exact H
              clear H
              have H := H1
              clear H1
              obtain rfl := Option.some.inj H
              obtain ⟨Ao42, co42, eo42⟩ := Kd.R_slice HO_11.out
              subst eo42
              go_wp2
              go_ret
              exact ⟨by first | rfl | (simp [errW_none, errW_some] <;> rfl) | (simp [*, errW_none, errW_some] <;> rfl), by repeat (first | (with_reducible first | exact HB.out | apply below_alloc | apply pw_below_drewN | apply below_drew1) | exact HB.out)⟩
    · rw [if_neg c9] at H
      exact absurd H (by simp)

/-- THE ONE PURE STATEMENT of conchlaw1_TextBack: yours. -/
def conchlaw1_TextBack.Pure : Prop := ∀ (a0 : Int) (a1 : ByteArray), (Lit.int .i64 a0).wf = true → a1.size ≤ 140737488351232 → ∃ k, conchlaw1_TextBack.f k a0 a1 = some true
theorem conchlaw1_TextBack.walk (P : conchlaw1_TextBack.Pure) (a0 : Int) (a1 : ByteArray) (w : World) (w0 : (Lit.int .i64 a0).wf = true) (w1 : a1.size ≤ 140737488351232) (HT : Aside0 (Go.Proofs.YthdndghhdiadiaaDoor.Tab.TabP w)) :
    Calls Tryd.prog 5 #[.int .i64 a0, .string a1] w fun e w' => e = .returned (.bool true) ∧ Below w.heap.size w w' := by
  obtain ⟨k, h⟩ := P a0 a1 w0 w1
  refine (conchlaw1_TextBack.calls k a0 a1 true w h).mono ?_
  rintro e w' ⟨rfl, hd⟩
  exact ⟨rfl, hd⟩

end Go.Proofs.YthdndghhdiadiaaDoor.PAll
