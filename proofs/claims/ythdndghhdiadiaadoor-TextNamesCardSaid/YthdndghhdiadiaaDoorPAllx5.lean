-- Written by a program of this work (wip/tools/gprint.py).
import Derived.Test.YthdndghhdiadiaaDoorPAllx0
import Derived.Test.YthdndghhdiadiaaDoorPAllx1
import Derived.Test.YthdndghhdiadiaaDoorPAllx2
namespace Go.Proofs.YthdndghhdiadiaaDoor.PAll
open Go.RowKit Go.Proofs.YthdndghhdiadiaaDoorW.PrintWords Go.Proofs.YthdndghhdiadiaaDoorW.PrintLast Go.Proofs.YthdndghhdiadiaaDoorW.PrintMore
attribute [local go_sem] max2_int min2_int max_two min_two max_three min_three max_four min_four   -- for this text's walks alone
set_option linter.unusedVariables false
set_option linter.unusedSimpArgs false

/-! ### conchlaw1_TextNames: function 6 -/
mutual
def conchlaw1_TextNames.j0 : Nat → ByteArray → ByteArray → Int → Bool → Option (Bool)
  | 0, _, _, _, _ => none
  | k + 1, x0, x1, x2, x16 => if x16 = true then ((conchlaw1_awake.f k).bind fun t183 => (some t183)) else ((text_Name.f k x0).bind fun t184 => (if t184 = true then ((text_Name.f k x1).bind fun t185 => (if t185 = true then (if x0.size + x1.size ≤ 9223372036854775807 then ((text_Name.f k (x0 ++ x1)).bind fun t186 => (if t186 = true then (if x0.size + 1 ≤ 9223372036854775807 then (if (x0 ++ (⟨#[55]⟩ : ByteArray)).size + x1.size ≤ 9223372036854775807 then ((text_Name.f k ((x0 ++ (⟨#[55]⟩ : ByteArray)) ++ x1)).bind fun t187 => (if t187 = true then (if (x0 ++ (⟨#[45]⟩ : ByteArray)).size + x1.size ≤ 9223372036854775807 then ((text_NameLen.f k ((x0 ++ (⟨#[45]⟩ : ByteArray)) ++ x1) 0).bind fun t188 => (if t188 = (x0.size : Int) then (if 1 + x1.size ≤ 9223372036854775807 then ((text_NameLen.f k ((⟨#[45]⟩ : ByteArray) ++ x1) 1).bind fun t189 => (conchlaw1_TextNames.j1 k x2 (!(t189 == (x1.size : Int))))) else (none)) else (conchlaw1_TextNames.j1 k x2 (!false)))) else (none)) else (conchlaw1_TextNames.j1 k x2 (!false)))) else (none)) else (none)) else (conchlaw1_TextNames.j1 k x2 (!false)))) else (none)) else (conchlaw1_TextNames.j1 k x2 false))) else (conchlaw1_TextNames.j1 k x2 false)))
def conchlaw1_TextNames.j1 : Nat → Int → Bool → Option (Bool)
  | 0, _, _ => none
  | k + 1, x2, x55 => if x55 = true then (some false) else (if x2 = 95 then (conchlaw1_TextNames.j2 k x2 true) else (if x2 ≥ 97 then (if x2 ≤ 122 then (conchlaw1_TextNames.j2 k x2 true) else (if x2 ≥ 65 then (conchlaw1_TextNames.j2 k x2 (decide (x2 ≤ 90))) else (conchlaw1_TextNames.j2 k x2 false))) else (if x2 ≥ 65 then (conchlaw1_TextNames.j2 k x2 (decide (x2 ≤ 90))) else (conchlaw1_TextNames.j2 k x2 false))))
def conchlaw1_TextNames.j2 : Nat → Int → Bool → Option (Bool)
  | 0, _, _ => none
  | k + 1, x2, x7 => (some (([x2] : List Int) : List Int)).bind fun y190 => ((text_Name.f k (strOfNums y190)).bind fun t193 => (if (t193 == x7) = true then (if 1 + (strOfNums y190).size ≤ 9223372036854775807 then ((text_Name.f k ((⟨#[97]⟩ : ByteArray) ++ (strOfNums y190))).bind fun t194 => (if x7 = true then (if (t194 == true) = true then ((text_Name.f k (⟨#[]⟩ : ByteArray)).bind fun t195 => (if t195 = true then (some false) else ((conchlaw1_awake.f k).bind fun t196 => (some t196)))) else (some false)) else (if x2 ≥ 48 then (if (t194 == (decide (x2 ≤ 57))) = true then ((text_Name.f k (⟨#[]⟩ : ByteArray)).bind fun t197 => (if t197 = true then (some false) else ((conchlaw1_awake.f k).bind fun t198 => (some t198)))) else (some false)) else (if (t194 == false) = true then ((text_Name.f k (⟨#[]⟩ : ByteArray)).bind fun t199 => (if t199 = true then (some false) else ((conchlaw1_awake.f k).bind fun t200 => (some t200)))) else (some false))))) else (none)) else (some false)))
end
def conchlaw1_TextNames.f (k : Nat) (a0 : ByteArray) (a1 : ByteArray) (a2 : Int) : Option (Bool) := if (a0.size : Int) > 100 then (conchlaw1_TextNames.j0 k a0 a1 a2 true) else (conchlaw1_TextNames.j0 k a0 a1 a2 (decide ((a1.size : Int) > 100)))
theorem conchlaw1_TextNames.mono_l : ∀ k, (∀ y0 y1 y2 y3, LeO (conchlaw1_TextNames.j0 k y0 y1 y2 y3) (conchlaw1_TextNames.j0 (k + 1) y0 y1 y2 y3)) ∧ (∀ y0 y1, LeO (conchlaw1_TextNames.j1 k y0 y1) (conchlaw1_TextNames.j1 (k + 1) y0 y1)) ∧ (∀ y0 y1, LeO (conchlaw1_TextNames.j2 k y0 y1) (conchlaw1_TextNames.j2 (k + 1) y0 y1))
  | 0 => ⟨fun _ _ _ _ r h => by simp [conchlaw1_TextNames.j0] at h, fun _ _ r h => by simp [conchlaw1_TextNames.j1] at h, fun _ _ r h => by simp [conchlaw1_TextNames.j2] at h⟩
  | k + 1 => by
    obtain ⟨ih0, ih1, ih2⟩ := conchlaw1_TextNames.mono_l k
    refine ⟨?_, ?_, ?_⟩
    · intro y0 y1 y2 y3
      unfold conchlaw1_TextNames.j0
      repeat' first
      | (with_reducible exact ih0 _ _ _ _)
      | (with_reducible exact ih1 _ _)
      | (with_reducible exact ih2 _ _)
      | (with_reducible exact conchlaw1_awake.mono _)
      | (with_reducible exact text_Name.mono _ _)
      | (with_reducible exact text_NameLen.mono _ _ _)
      | (with_reducible exact LeO.refl _)
      | (with_reducible exact LeO.none _)
      | (with_reducible refine LeO.ite ?_ ?_)
      | (with_reducible refine LeO.bind ?_ (fun _ => ?_))
      | exact ih0 _ _ _ _
      | exact ih1 _ _
      | exact ih2 _ _
      | exact conchlaw1_awake.mono _
      | exact text_Name.mono _ _
      | exact text_NameLen.mono _ _ _
      | exact LeO.none _
      | refine LeO.ite ?_ ?_
      | refine LeO.bind ?_ (fun _ => ?_)
    · intro y0 y1
      unfold conchlaw1_TextNames.j1
      repeat' first
      | (with_reducible exact ih0 _ _ _ _)
      | (with_reducible exact ih1 _ _)
      | (with_reducible exact ih2 _ _)
      | (with_reducible exact conchlaw1_awake.mono _)
      | (with_reducible exact text_Name.mono _ _)
      | (with_reducible exact text_NameLen.mono _ _ _)
      | (with_reducible exact LeO.refl _)
      | (with_reducible exact LeO.none _)
      | (with_reducible refine LeO.ite ?_ ?_)
      | (with_reducible refine LeO.bind ?_ (fun _ => ?_))
      | exact ih0 _ _ _ _
      | exact ih1 _ _
      | exact ih2 _ _
      | exact conchlaw1_awake.mono _
      | exact text_Name.mono _ _
      | exact text_NameLen.mono _ _ _
      | exact LeO.none _
      | refine LeO.ite ?_ ?_
      | refine LeO.bind ?_ (fun _ => ?_)
    · intro y0 y1
      unfold conchlaw1_TextNames.j2
      repeat' first
      | (with_reducible exact ih0 _ _ _ _)
      | (with_reducible exact ih1 _ _)
      | (with_reducible exact ih2 _ _)
      | (with_reducible exact conchlaw1_awake.mono _)
      | (with_reducible exact text_Name.mono _ _)
      | (with_reducible exact text_NameLen.mono _ _ _)
      | (with_reducible exact LeO.refl _)
      | (with_reducible exact LeO.none _)
      | (with_reducible refine LeO.ite ?_ ?_)
      | (with_reducible refine LeO.bind ?_ (fun _ => ?_))
      | exact ih0 _ _ _ _
      | exact ih1 _ _
      | exact ih2 _ _
      | exact conchlaw1_awake.mono _
      | exact text_Name.mono _ _
      | exact text_NameLen.mono _ _ _
      | exact LeO.none _
      | refine LeO.ite ?_ ?_
      | refine LeO.bind ?_ (fun _ => ?_)
theorem conchlaw1_TextNames.mono : ∀ a0 a1 a2 k, LeO (conchlaw1_TextNames.f k a0 a1 a2) (conchlaw1_TextNames.f (k + 1) a0 a1 a2) := by
  intro a0 a1 a2 k
  obtain ⟨ih0, ih1, ih2⟩ := conchlaw1_TextNames.mono_l k
  unfold conchlaw1_TextNames.f
  repeat' first
      | (with_reducible exact ih0 _ _ _ _)
      | (with_reducible exact ih1 _ _)
      | (with_reducible exact ih2 _ _)
      | (with_reducible exact conchlaw1_awake.mono _)
      | (with_reducible exact text_Name.mono _ _)
      | (with_reducible exact text_NameLen.mono _ _ _)
      | (with_reducible exact LeO.refl _)
      | (with_reducible exact LeO.none _)
      | (with_reducible refine LeO.ite ?_ ?_)
      | (with_reducible refine LeO.bind ?_ (fun _ => ?_))
      | exact ih0 _ _ _ _
      | exact ih1 _ _
      | exact ih2 _ _
      | exact conchlaw1_awake.mono _
      | exact text_Name.mono _ _
      | exact text_NameLen.mono _ _ _
      | exact LeO.none _
      | refine LeO.ite ?_ ?_
      | refine LeO.bind ?_ (fun _ => ?_)
set_option maxHeartbeats 8000000 in
set_option maxRecDepth 100000 in
theorem conchlaw1_TextNames.calls (k : Nat) (a0 : ByteArray) (a1 : ByteArray) (a2 : Int) (r : Bool) (w : World) (h : conchlaw1_TextNames.f k a0 a1 a2 = some r) (HT : Aside0 (Go.Proofs.YthdndghhdiadiaaDoor.Tab.TabP w) := by first | exact HT | exact Go.Proofs.YthdndghhdiadiaaDoor.Tab.tabs_step HT (by repeat (first | (with_reducible first | exact HB.out | apply below_alloc | apply pw_below_drewN | apply below_drew1) | exact HB.out))) :
    Calls Tryd.prog 6 #[.string a0, .string a1, .int .u8 a2] w fun e w' => e = .returned (.bool r) ∧ Below w.heap.size w w' := by
  have HB := Aside0.mk (Below.refl w.heap.size w)
  have H : (if (a0.size : Int) > 100 then (conchlaw1_TextNames.j0 k a0 a1 a2 true) else (conchlaw1_TextNames.j0 k a0 a1 a2 (decide ((a1.size : Int) > 100)))) = some r := h
  clear h
  have HC4 := Aside0.mk H
  clear H
  go_enter Tryd.func6, Tryd.ntmps6
  go_upto_region 1 with (fail)
  go_cut [16] (fun v16 wc => ∃ (kq : Nat) (x16_3 : Bool), v16 = .bool x16_3 ∧ Aside0 (conchlaw1_TextNames.j0 kq a0 a1 a2 x16_3 = some r) ∧ Aside0 (kq ≤ k) ∧ Aside0 (Below w.heap.size w wc))
  case first =>
    have H := HC4.out
    clear HC4
    by_cases c5 : (a0.size : Int) > 100
    · rw [if_pos c5] at H
      have c5b0 : decide (100 < (a0.size : Int)) = true := decide_eq_true c5
      have c5b1 : decide (100 < a0.size) = true := decide_eq_true (by omega)
      clear c5
      (first | rw [c5b0] | (simp only [i64_w, i32_w]; rw [c5b0]) | skip)
      have H' := Aside0.mk H
      clear H
      go_wp2
      go_meet
      case rel => exact ⟨_, (true), (by first | rfl | (simp; done) | (simp [*]; done)), H', ⟨by first | omega | exact Nat.le_refl _⟩, ⟨by repeat (first | (with_reducible first | exact HB.out | apply below_alloc | apply pw_below_drewN | apply below_drew1) | exact HB.out)⟩⟩
    · rw [if_neg c5] at H
      have c5b0 : decide (100 < (a0.size : Int)) = false := decide_eq_false c5
      have c5b1 : decide (100 < a0.size) = false := decide_eq_false (by omega)
      clear c5
      (first | rw [c5b0] | (simp only [i64_w, i32_w]; rw [c5b0]) | skip)
      have H' := Aside0.mk H
      clear H
      go_wp2
      go_meet
      case rel => exact ⟨_, (decide ((a1.size : Int) > 100)), (by first | rfl | (simp; done) | (simp [*]; done)), H', ⟨by first | omega | exact Nat.le_refl _⟩, ⟨by repeat (first | (with_reducible first | exact HB.out | apply below_alloc | apply pw_below_drewN | apply below_drew1) | exact HB.out)⟩⟩
  case rest =>
    clear HC4
    try clear p2
    try clear c5
    try clear c5b0
    try clear c5b1
    obtain ⟨kq, x16_3, rfl, HA, HJ3, HB⟩ := hcut
    cases kq with
    | zero => exact absurd HA.out (by simp [conchlaw1_TextNames.j0])
    | succ kj3 =>
      have H := HA.out
      clear HA
      simp only [conchlaw1_TextNames.j0] at H
      by_cases c6 : x16_3 = true
      · subst c6
        have H1 : ((conchlaw1_awake.f kj3).bind fun t183 => (some t183)) = some r := by rw [if_pos rfl] at H; exact H
        clear H
        have H := H1
        clear H1
        replace H := Option.bind_eq_some_iff.mp H
        obtain ⟨t183, A70, H⟩ := H
        replace H : (some t183) = some r := H
        have A7 := Aside0.mk A70
        clear A70
        obtain rfl := Option.some.inj H
        go_wp2_with (first | ((with_reducible refine gate_callee (f := 9) rfl ?_); refine goesL_ (some 17) rfl rfl Tryd.func9 (by kernel_rfl) rfl #[] rfl (by (try simp only [List.map_toArray, List.map_cons, List.map_nil]); first | done | rfl | (simp only [List.length_drop, List.length_take]; rfl)) ?_; (with_reducible refine (conchlaw1_awake.calls kj3  t183 _ A7.out).mono ?_); rintro e w8 ⟨rfl, hb⟩; refine ⟨_, rfl, ?_⟩; have n0_ := Aside0.mk (below_step (by repeat (first | (with_reducible first | exact HB.out | apply below_alloc | apply pw_below_drewN | apply below_drew1) | exact HB.out)) hb); clear HB; have HB := n0_; clear n0_; (try clear hb); (try clear hb2); (try clear hk); (try clear hi)))
        go_ret
        exact ⟨by first | rfl | (simp [errW_none, errW_some] <;> rfl) | (simp [*, errW_none, errW_some] <;> rfl), by repeat (first | (with_reducible first | exact HB.out | apply below_alloc | apply pw_below_drewN | apply below_drew1) | exact HB.out)⟩
      · replace c6 := Bool.eq_false_iff.mpr c6
        subst c6
        have H1 : ((text_Name.f kj3 a0).bind fun t184 => (if t184 = true then ((text_Name.f kj3 a1).bind fun t185 => (if t185 = true then (if a0.size + a1.size ≤ 9223372036854775807 then ((text_Name.f kj3 (a0 ++ a1)).bind fun t186 => (if t186 = true then (if a0.size + 1 ≤ 9223372036854775807 then (if (a0 ++ (⟨#[55]⟩ : ByteArray)).size + a1.size ≤ 9223372036854775807 then ((text_Name.f kj3 ((a0 ++ (⟨#[55]⟩ : ByteArray)) ++ a1)).bind fun t187 => (if t187 = true then (if (a0 ++ (⟨#[45]⟩ : ByteArray)).size + a1.size ≤ 9223372036854775807 then ((text_NameLen.f kj3 ((a0 ++ (⟨#[45]⟩ : ByteArray)) ++ a1) 0).bind fun t188 => (if t188 = (a0.size : Int) then (if 1 + a1.size ≤ 9223372036854775807 then ((text_NameLen.f kj3 ((⟨#[45]⟩ : ByteArray) ++ a1) 1).bind fun t189 => (conchlaw1_TextNames.j1 kj3 a2 (!(t189 == (a1.size : Int))))) else (none)) else (conchlaw1_TextNames.j1 kj3 a2 (!false)))) else (none)) else (conchlaw1_TextNames.j1 kj3 a2 (!false)))) else (none)) else (none)) else (conchlaw1_TextNames.j1 kj3 a2 (!false)))) else (none)) else (conchlaw1_TextNames.j1 kj3 a2 false))) else (conchlaw1_TextNames.j1 kj3 a2 false))) = some r := by rw [if_neg (show ¬ (false = true) by decide)] at H; exact H
        clear H
        have H := H1
        clear H1
        have HC9 := Aside0.mk H
        clear H
        go_upto_region 3 with (fail)
        go_cut [55] (fun v55 wc => ∃ (kq : Nat) (x55_8 : Bool), v55 = .bool x55_8 ∧ Aside0 (conchlaw1_TextNames.j1 kq a2 x55_8 = some r) ∧ Aside0 (kq ≤ kj3) ∧ Aside0 (Below w.heap.size w wc))
        case first =>
          have H := HC9.out
          clear HC9
          replace H := Option.bind_eq_some_iff.mp H
          obtain ⟨t184, A100, H⟩ := H
          replace H : (if t184 = true then ((text_Name.f kj3 a1).bind fun t185 => (if t185 = true then (if a0.size + a1.size ≤ 9223372036854775807 then ((text_Name.f kj3 (a0 ++ a1)).bind fun t186 => (if t186 = true then (if a0.size + 1 ≤ 9223372036854775807 then (if (a0 ++ (⟨#[55]⟩ : ByteArray)).size + a1.size ≤ 9223372036854775807 then ((text_Name.f kj3 ((a0 ++ (⟨#[55]⟩ : ByteArray)) ++ a1)).bind fun t187 => (if t187 = true then (if (a0 ++ (⟨#[45]⟩ : ByteArray)).size + a1.size ≤ 9223372036854775807 then ((text_NameLen.f kj3 ((a0 ++ (⟨#[45]⟩ : ByteArray)) ++ a1) 0).bind fun t188 => (if t188 = (a0.size : Int) then (if 1 + a1.size ≤ 9223372036854775807 then ((text_NameLen.f kj3 ((⟨#[45]⟩ : ByteArray) ++ a1) 1).bind fun t189 => (conchlaw1_TextNames.j1 kj3 a2 (!(t189 == (a1.size : Int))))) else (none)) else (conchlaw1_TextNames.j1 kj3 a2 (!false)))) else (none)) else (conchlaw1_TextNames.j1 kj3 a2 (!false)))) else (none)) else (none)) else (conchlaw1_TextNames.j1 kj3 a2 (!false)))) else (none)) else (conchlaw1_TextNames.j1 kj3 a2 false))) else (conchlaw1_TextNames.j1 kj3 a2 false)) = some r := H
          have A10 := Aside0.mk A100
          clear A100
          by_cases c11 : t184 = true
          · subst c11
            have H1 : ((text_Name.f kj3 a1).bind fun t185 => (if t185 = true then (if a0.size + a1.size ≤ 9223372036854775807 then ((text_Name.f kj3 (a0 ++ a1)).bind fun t186 => (if t186 = true then (if a0.size + 1 ≤ 9223372036854775807 then (if (a0 ++ (⟨#[55]⟩ : ByteArray)).size + a1.size ≤ 9223372036854775807 then ((text_Name.f kj3 ((a0 ++ (⟨#[55]⟩ : ByteArray)) ++ a1)).bind fun t187 => (if t187 = true then (if (a0 ++ (⟨#[45]⟩ : ByteArray)).size + a1.size ≤ 9223372036854775807 then ((text_NameLen.f kj3 ((a0 ++ (⟨#[45]⟩ : ByteArray)) ++ a1) 0).bind fun t188 => (if t188 = (a0.size : Int) then (if 1 + a1.size ≤ 9223372036854775807 then ((text_NameLen.f kj3 ((⟨#[45]⟩ : ByteArray) ++ a1) 1).bind fun t189 => (conchlaw1_TextNames.j1 kj3 a2 (!(t189 == (a1.size : Int))))) else (none)) else (conchlaw1_TextNames.j1 kj3 a2 (!false)))) else (none)) else (conchlaw1_TextNames.j1 kj3 a2 (!false)))) else (none)) else (none)) else (conchlaw1_TextNames.j1 kj3 a2 (!false)))) else (none)) else (conchlaw1_TextNames.j1 kj3 a2 false))) = some r := by rw [if_pos rfl] at H; exact H
            clear H
            have H := H1
            clear H1
            replace H := Option.bind_eq_some_iff.mp H
            obtain ⟨t185, A120, H⟩ := H
            replace H : (if t185 = true then (if a0.size + a1.size ≤ 9223372036854775807 then ((text_Name.f kj3 (a0 ++ a1)).bind fun t186 => (if t186 = true then (if a0.size + 1 ≤ 9223372036854775807 then (if (a0 ++ (⟨#[55]⟩ : ByteArray)).size + a1.size ≤ 9223372036854775807 then ((text_Name.f kj3 ((a0 ++ (⟨#[55]⟩ : ByteArray)) ++ a1)).bind fun t187 => (if t187 = true then (if (a0 ++ (⟨#[45]⟩ : ByteArray)).size + a1.size ≤ 9223372036854775807 then ((text_NameLen.f kj3 ((a0 ++ (⟨#[45]⟩ : ByteArray)) ++ a1) 0).bind fun t188 => (if t188 = (a0.size : Int) then (if 1 + a1.size ≤ 9223372036854775807 then ((text_NameLen.f kj3 ((⟨#[45]⟩ : ByteArray) ++ a1) 1).bind fun t189 => (conchlaw1_TextNames.j1 kj3 a2 (!(t189 == (a1.size : Int))))) else (none)) else (conchlaw1_TextNames.j1 kj3 a2 (!false)))) else (none)) else (conchlaw1_TextNames.j1 kj3 a2 (!false)))) else (none)) else (none)) else (conchlaw1_TextNames.j1 kj3 a2 (!false)))) else (none)) else (conchlaw1_TextNames.j1 kj3 a2 false)) = some r := H
            have A12 := Aside0.mk A120
            clear A120
            by_cases c13 : t185 = true
            · subst c13
              have H1 : (if a0.size + a1.size ≤ 9223372036854775807 then ((text_Name.f kj3 (a0 ++ a1)).bind fun t186 => (if t186 = true then (if a0.size + 1 ≤ 9223372036854775807 then (if (a0 ++ (⟨#[55]⟩ : ByteArray)).size + a1.size ≤ 9223372036854775807 then ((text_Name.f kj3 ((a0 ++ (⟨#[55]⟩ : ByteArray)) ++ a1)).bind fun t187 => (if t187 = true then (if (a0 ++ (⟨#[45]⟩ : ByteArray)).size + a1.size ≤ 9223372036854775807 then ((text_NameLen.f kj3 ((a0 ++ (⟨#[45]⟩ : ByteArray)) ++ a1) 0).bind fun t188 => (if t188 = (a0.size : Int) then (if 1 + a1.size ≤ 9223372036854775807 then ((text_NameLen.f kj3 ((⟨#[45]⟩ : ByteArray) ++ a1) 1).bind fun t189 => (conchlaw1_TextNames.j1 kj3 a2 (!(t189 == (a1.size : Int))))) else (none)) else (conchlaw1_TextNames.j1 kj3 a2 (!false)))) else (none)) else (conchlaw1_TextNames.j1 kj3 a2 (!false)))) else (none)) else (none)) else (conchlaw1_TextNames.j1 kj3 a2 (!false)))) else (none)) = some r := by rw [if_pos rfl] at H; exact H
              clear H
              have H := H1
              clear H1
              by_cases c14 : a0.size + a1.size ≤ 9223372036854775807
              · rw [if_pos c14] at H
                have c14b0 := eq_true c14
                have c14b1 : decide (a0.size + a1.size ≤ 9223372036854775807) = true := decide_eq_true c14
                try have c14b2 : (9223372036854775807 < a0.size + a1.size) = False := eq_false (Nat.not_lt.2 c14)
                replace H := Option.bind_eq_some_iff.mp H
                obtain ⟨t186, A150, H⟩ := H
                replace H : (if t186 = true then (if a0.size + 1 ≤ 9223372036854775807 then (if (a0 ++ (⟨#[55]⟩ : ByteArray)).size + a1.size ≤ 9223372036854775807 then ((text_Name.f kj3 ((a0 ++ (⟨#[55]⟩ : ByteArray)) ++ a1)).bind fun t187 => (if t187 = true then (if (a0 ++ (⟨#[45]⟩ : ByteArray)).size + a1.size ≤ 9223372036854775807 then ((text_NameLen.f kj3 ((a0 ++ (⟨#[45]⟩ : ByteArray)) ++ a1) 0).bind fun t188 => (if t188 = (a0.size : Int) then (if 1 + a1.size ≤ 9223372036854775807 then ((text_NameLen.f kj3 ((⟨#[45]⟩ : ByteArray) ++ a1) 1).bind fun t189 => (conchlaw1_TextNames.j1 kj3 a2 (!(t189 == (a1.size : Int))))) else (none)) else (conchlaw1_TextNames.j1 kj3 a2 (!false)))) else (none)) else (conchlaw1_TextNames.j1 kj3 a2 (!false)))) else (none)) else (none)) else (conchlaw1_TextNames.j1 kj3 a2 (!false))) = some r := H
                have A15 := Aside0.mk A150
                clear A150
                by_cases c16 : t186 = true
                · subst c16
                  have H1 : (if a0.size + 1 ≤ 9223372036854775807 then (if (a0 ++ (⟨#[55]⟩ : ByteArray)).size + a1.size ≤ 9223372036854775807 then ((text_Name.f kj3 ((a0 ++ (⟨#[55]⟩ : ByteArray)) ++ a1)).bind fun t187 => (if t187 = true then (if (a0 ++ (⟨#[45]⟩ : ByteArray)).size + a1.size ≤ 9223372036854775807 then ((text_NameLen.f kj3 ((a0 ++ (⟨#[45]⟩ : ByteArray)) ++ a1) 0).bind fun t188 => (if t188 = (a0.size : Int) then (if 1 + a1.size ≤ 9223372036854775807 then ((text_NameLen.f kj3 ((⟨#[45]⟩ : ByteArray) ++ a1) 1).bind fun t189 => (conchlaw1_TextNames.j1 kj3 a2 (!(t189 == (a1.size : Int))))) else (none)) else (conchlaw1_TextNames.j1 kj3 a2 (!false)))) else (none)) else (conchlaw1_TextNames.j1 kj3 a2 (!false)))) else (none)) else (none)) = some r := by rw [if_pos rfl] at H; exact H
                  clear H
                  have H := H1
                  clear H1
                  by_cases c17 : a0.size + 1 ≤ 9223372036854775807
                  · rw [if_pos c17] at H
                    have c17b0 := eq_true c17
                    have c17b1 : decide (a0.size + 1 ≤ 9223372036854775807) = true := decide_eq_true c17
                    try have c17b2 : (9223372036854775807 < a0.size + 1) = False := eq_false (Nat.not_lt.2 c17)
                    by_cases c18 : (a0 ++ (⟨#[55]⟩ : ByteArray)).size + a1.size ≤ 9223372036854775807
                    · rw [if_pos c18] at H
                      have c18b0 := eq_true c18
                      have c18b1 : decide ((a0 ++ (⟨#[55]⟩ : ByteArray)).size + a1.size ≤ 9223372036854775807) = true := decide_eq_true c18
                      try have c18b2 : (9223372036854775807 < (a0 ++ (⟨#[55]⟩ : ByteArray)).size + a1.size) = False := eq_false (Nat.not_lt.2 c18)
                      try have c18b9 : (9223372036854775807 < a0.size + 1 + a1.size) = False := eq_false (by have h_ := c18; simp only [ByteArray.size_append, ByteArray.size_extract, Nat.min_self] at h_; first | omega | (simp at h_; omega))
                      replace H := Option.bind_eq_some_iff.mp H
                      obtain ⟨t187, A190, H⟩ := H
                      replace H : (if t187 = true then (if (a0 ++ (⟨#[45]⟩ : ByteArray)).size + a1.size ≤ 9223372036854775807 then ((text_NameLen.f kj3 ((a0 ++ (⟨#[45]⟩ : ByteArray)) ++ a1) 0).bind fun t188 => (if t188 = (a0.size : Int) then (if 1 + a1.size ≤ 9223372036854775807 then ((text_NameLen.f kj3 ((⟨#[45]⟩ : ByteArray) ++ a1) 1).bind fun t189 => (conchlaw1_TextNames.j1 kj3 a2 (!(t189 == (a1.size : Int))))) else (none)) else (conchlaw1_TextNames.j1 kj3 a2 (!false)))) else (none)) else (conchlaw1_TextNames.j1 kj3 a2 (!false))) = some r := H
                      have A19 := Aside0.mk A190
                      clear A190
                      by_cases c20 : t187 = true
                      · subst c20
                        have H1 : (if (a0 ++ (⟨#[45]⟩ : ByteArray)).size + a1.size ≤ 9223372036854775807 then ((text_NameLen.f kj3 ((a0 ++ (⟨#[45]⟩ : ByteArray)) ++ a1) 0).bind fun t188 => (if t188 = (a0.size : Int) then (if 1 + a1.size ≤ 9223372036854775807 then ((text_NameLen.f kj3 ((⟨#[45]⟩ : ByteArray) ++ a1) 1).bind fun t189 => (conchlaw1_TextNames.j1 kj3 a2 (!(t189 == (a1.size : Int))))) else (none)) else (conchlaw1_TextNames.j1 kj3 a2 (!false)))) else (none)) = some r := by rw [if_pos rfl] at H; exact H
                        clear H
                        have H := H1
                        clear H1
                        by_cases c21 : (a0 ++ (⟨#[45]⟩ : ByteArray)).size + a1.size ≤ 9223372036854775807
                        · rw [if_pos c21] at H
                          have c21b0 := eq_true c21
                          have c21b1 : decide ((a0 ++ (⟨#[45]⟩ : ByteArray)).size + a1.size ≤ 9223372036854775807) = true := decide_eq_true c21
                          try have c21b2 : (9223372036854775807 < (a0 ++ (⟨#[45]⟩ : ByteArray)).size + a1.size) = False := eq_false (Nat.not_lt.2 c21)
                          try have c21b9 : (9223372036854775807 < a0.size + 1 + a1.size) = False := eq_false (by have h_ := c21; simp only [ByteArray.size_append, ByteArray.size_extract, Nat.min_self] at h_; first | omega | (simp at h_; omega))
                          replace H := Option.bind_eq_some_iff.mp H
                          obtain ⟨t188, A220, H⟩ := H
                          replace H : (if t188 = (a0.size : Int) then (if 1 + a1.size ≤ 9223372036854775807 then ((text_NameLen.f kj3 ((⟨#[45]⟩ : ByteArray) ++ a1) 1).bind fun t189 => (conchlaw1_TextNames.j1 kj3 a2 (!(t189 == (a1.size : Int))))) else (none)) else (conchlaw1_TextNames.j1 kj3 a2 (!false))) = some r := H
                          have A22 := Aside0.mk A220
                          clear A220
                          by_cases c23 : t188 = (a0.size : Int)
                          · rw [if_pos c23] at H
                            have c23b0 : (t188 == (a0.size : Int)) = true := beq_iff_eq.mpr c23
                            have c23b1 : (t188 != (a0.size : Int)) = false := bne_eq_false_iff_eq.mpr c23
                            clear c23
                            (first | rw [c23b0] | (simp only [i64_w, i32_w]; rw [c23b0]) | skip)
                            by_cases c24 : 1 + a1.size ≤ 9223372036854775807
                            · rw [if_pos c24] at H
                              have c24b0 := eq_true c24
                              have c24b1 : decide (1 + a1.size ≤ 9223372036854775807) = true := decide_eq_true c24
                              try have c24b2 : (9223372036854775807 < 1 + a1.size) = False := eq_false (Nat.not_lt.2 c24)
                              replace H := Option.bind_eq_some_iff.mp H
                              obtain ⟨t189, A250, H⟩ := H
                              replace H : (conchlaw1_TextNames.j1 kj3 a2 (!(t189 == (a1.size : Int)))) = some r := H
                              have A25 := Aside0.mk A250
                              clear A250
                              have H' := Aside0.mk H
                              clear H
                              go_wp2_with (first | ((with_reducible refine gate_callee (f := 13) rfl ?_); refine goesL_ (some 19) rfl rfl Tryd.func13 (by kernel_rfl) rfl #[.string a0] rfl (by (try simp only [List.map_toArray, List.map_cons, List.map_nil]); first | done | rfl | (simp only [List.length_drop, List.length_take]; rfl)) ?_; (with_reducible refine (text_Name.calls kj3 a0 true _ A10.out).mono ?_); rintro e w' ⟨rfl, ⟨nd, rfl⟩⟩; refine ⟨_, rfl, ?_⟩) | (go_at_call 13; (with_reducible refine (text_Name.calls kj3 a1 true _ A12.out).mono ?_); rintro e w' ⟨rfl, ⟨nd, rfl⟩⟩) | (go_at_call 13; (with_reducible refine (text_Name.calls kj3 (a0 ++ a1) true _ A15.out).mono ?_); rintro e w' ⟨rfl, ⟨nd, rfl⟩⟩) | (go_at_call 13; (with_reducible refine (text_Name.calls kj3 ((a0 ++ (⟨#[55]⟩ : ByteArray)) ++ a1) true _ A19.out).mono ?_); rintro e w' ⟨rfl, ⟨nd, rfl⟩⟩) | (go_at_call 10; (with_reducible refine (text_NameLen.calls kj3 ((a0 ++ (⟨#[45]⟩ : ByteArray)) ++ a1) 0 t188 _ A22.out).mono ?_); rintro e w' ⟨rfl, ⟨nd, rfl⟩⟩) | (go_at_call 10; (with_reducible refine (text_NameLen.calls kj3 ((⟨#[45]⟩ : ByteArray) ++ a1) 1 t189 _ A25.out).mono ?_); rintro e w' ⟨rfl, ⟨nd, rfl⟩⟩))
                              go_meet
                              case rel => exact ⟨_, (!(t189 == (a1.size : Int))), (by first | rfl | (simp; done) | (simp [*]; done)), H', ⟨by have := HJ3.out; first | omega | exact Nat.le_refl _⟩, ⟨by repeat (first | (with_reducible first | exact HB.out | apply below_alloc | apply pw_below_drewN | apply below_drew1) | exact HB.out)⟩⟩
                            · rw [if_neg c24] at H
                              exact absurd H (by simp)
                          · rw [if_neg c23] at H
                            have c23b0 : (t188 == (a0.size : Int)) = false := beq_eq_false_iff_ne.mpr c23
                            have c23b1 : (t188 != (a0.size : Int)) = true := bne_iff_ne.mpr c23
                            (first | rw [c23b0] | (simp only [i64_w, i32_w]; rw [c23b0]) | skip)
                            have H' := Aside0.mk H
                            clear H
                            go_wp2_with (first | ((with_reducible refine gate_callee (f := 13) rfl ?_); refine goesL_ (some 19) rfl rfl Tryd.func13 (by kernel_rfl) rfl #[.string a0] rfl (by (try simp only [List.map_toArray, List.map_cons, List.map_nil]); first | done | rfl | (simp only [List.length_drop, List.length_take]; rfl)) ?_; (with_reducible refine (text_Name.calls kj3 a0 true _ A10.out).mono ?_); rintro e w' ⟨rfl, ⟨nd, rfl⟩⟩; refine ⟨_, rfl, ?_⟩) | (go_at_call 13; (with_reducible refine (text_Name.calls kj3 a1 true _ A12.out).mono ?_); rintro e w' ⟨rfl, ⟨nd, rfl⟩⟩) | (go_at_call 13; (with_reducible refine (text_Name.calls kj3 (a0 ++ a1) true _ A15.out).mono ?_); rintro e w' ⟨rfl, ⟨nd, rfl⟩⟩) | (go_at_call 13; (with_reducible refine (text_Name.calls kj3 ((a0 ++ (⟨#[55]⟩ : ByteArray)) ++ a1) true _ A19.out).mono ?_); rintro e w' ⟨rfl, ⟨nd, rfl⟩⟩) | (go_at_call 10; (with_reducible refine (text_NameLen.calls kj3 ((a0 ++ (⟨#[45]⟩ : ByteArray)) ++ a1) 0 t188 _ A22.out).mono ?_); rintro e w' ⟨rfl, ⟨nd, rfl⟩⟩))
                            go_meet
                            case rel => exact ⟨_, (!false), (by first | rfl | (simp; done) | (simp [*]; done)), H', ⟨by have := HJ3.out; first | omega | exact Nat.le_refl _⟩, ⟨by repeat (first | (with_reducible first | exact HB.out | apply below_alloc | apply pw_below_drewN | apply below_drew1) | exact HB.out)⟩⟩
                        · rw [if_neg c21] at H
                          exact absurd H (by simp)
                      · replace c20 := Bool.eq_false_iff.mpr c20
                        subst c20
                        have H1 : (conchlaw1_TextNames.j1 kj3 a2 (!false)) = some r := by rw [if_neg (show ¬ (false = true) by decide)] at H; exact H
                        clear H
                        have H := H1
                        clear H1
                        have H' := Aside0.mk H
                        clear H
                        go_wp2_with (first | ((with_reducible refine gate_callee (f := 13) rfl ?_); refine goesL_ (some 19) rfl rfl Tryd.func13 (by kernel_rfl) rfl #[.string a0] rfl (by (try simp only [List.map_toArray, List.map_cons, List.map_nil]); first | done | rfl | (simp only [List.length_drop, List.length_take]; rfl)) ?_; (with_reducible refine (text_Name.calls kj3 a0 true _ A10.out).mono ?_); rintro e w' ⟨rfl, ⟨nd, rfl⟩⟩; refine ⟨_, rfl, ?_⟩) | (go_at_call 13; (with_reducible refine (text_Name.calls kj3 a1 true _ A12.out).mono ?_); rintro e w' ⟨rfl, ⟨nd, rfl⟩⟩) | (go_at_call 13; (with_reducible refine (text_Name.calls kj3 (a0 ++ a1) true _ A15.out).mono ?_); rintro e w' ⟨rfl, ⟨nd, rfl⟩⟩) | (go_at_call 13; (with_reducible refine (text_Name.calls kj3 ((a0 ++ (⟨#[55]⟩ : ByteArray)) ++ a1) false _ A19.out).mono ?_); rintro e w' ⟨rfl, ⟨nd, rfl⟩⟩))
                        go_meet
                        case rel => exact ⟨_, (!false), (by first | rfl | (simp; done) | (simp [*]; done)), H', ⟨by have := HJ3.out; first | omega | exact Nat.le_refl _⟩, ⟨by repeat (first | (with_reducible first | exact HB.out | apply below_alloc | apply pw_below_drewN | apply below_drew1) | exact HB.out)⟩⟩
                    · rw [if_neg c18] at H
                      exact absurd H (by simp)
                  · rw [if_neg c17] at H
                    exact absurd H (by simp)
                · replace c16 := Bool.eq_false_iff.mpr c16
                  subst c16
                  have H1 : (conchlaw1_TextNames.j1 kj3 a2 (!false)) = some r := by rw [if_neg (show ¬ (false = true) by decide)] at H; exact H
                  clear H
                  have H := H1
                  clear H1
                  have H' := Aside0.mk H
                  clear H
                  go_wp2_with (first | ((with_reducible refine gate_callee (f := 13) rfl ?_); refine goesL_ (some 19) rfl rfl Tryd.func13 (by kernel_rfl) rfl #[.string a0] rfl (by (try simp only [List.map_toArray, List.map_cons, List.map_nil]); first | done | rfl | (simp only [List.length_drop, List.length_take]; rfl)) ?_; (with_reducible refine (text_Name.calls kj3 a0 true _ A10.out).mono ?_); rintro e w' ⟨rfl, ⟨nd, rfl⟩⟩; refine ⟨_, rfl, ?_⟩) | (go_at_call 13; (with_reducible refine (text_Name.calls kj3 a1 true _ A12.out).mono ?_); rintro e w' ⟨rfl, ⟨nd, rfl⟩⟩) | (go_at_call 13; (with_reducible refine (text_Name.calls kj3 (a0 ++ a1) false _ A15.out).mono ?_); rintro e w' ⟨rfl, ⟨nd, rfl⟩⟩))
                  go_meet
                  case rel => exact ⟨_, (!false), (by first | rfl | (simp; done) | (simp [*]; done)), H', ⟨by have := HJ3.out; first | omega | exact Nat.le_refl _⟩, ⟨by repeat (first | (with_reducible first | exact HB.out | apply below_alloc | apply pw_below_drewN | apply below_drew1) | exact HB.out)⟩⟩
              · rw [if_neg c14] at H
                exact absurd H (by simp)
            · replace c13 := Bool.eq_false_iff.mpr c13
              subst c13
              have H1 : (conchlaw1_TextNames.j1 kj3 a2 false) = some r := by rw [if_neg (show ¬ (false = true) by decide)] at H; exact H
              clear H
              have H := H1
              clear H1
              have H' := Aside0.mk H
              clear H
              go_wp2_with (first | ((with_reducible refine gate_callee (f := 13) rfl ?_); refine goesL_ (some 19) rfl rfl Tryd.func13 (by kernel_rfl) rfl #[.string a0] rfl (by (try simp only [List.map_toArray, List.map_cons, List.map_nil]); first | done | rfl | (simp only [List.length_drop, List.length_take]; rfl)) ?_; (with_reducible refine (text_Name.calls kj3 a0 true _ A10.out).mono ?_); rintro e w' ⟨rfl, ⟨nd, rfl⟩⟩; refine ⟨_, rfl, ?_⟩) | (go_at_call 13; (with_reducible refine (text_Name.calls kj3 a1 false _ A12.out).mono ?_); rintro e w' ⟨rfl, ⟨nd, rfl⟩⟩))
              go_meet
              case rel => exact ⟨_, (false), (by first | rfl | (simp; done) | (simp [*]; done)), H', ⟨by have := HJ3.out; first | omega | exact Nat.le_refl _⟩, ⟨by repeat (first | (with_reducible first | exact HB.out | apply below_alloc | apply pw_below_drewN | apply below_drew1) | exact HB.out)⟩⟩
          · replace c11 := Bool.eq_false_iff.mpr c11
            subst c11
            have H1 : (conchlaw1_TextNames.j1 kj3 a2 false) = some r := by rw [if_neg (show ¬ (false = true) by decide)] at H; exact H
            clear H
            have H := H1
            clear H1
            have H' := Aside0.mk H
            clear H
            go_wp2_with (first | ((with_reducible refine gate_callee (f := 13) rfl ?_); refine goesL_ (some 19) rfl rfl Tryd.func13 (by kernel_rfl) rfl #[.string a0] rfl (by (try simp only [List.map_toArray, List.map_cons, List.map_nil]); first | done | rfl | (simp only [List.length_drop, List.length_take]; rfl)) ?_; (with_reducible refine (text_Name.calls kj3 a0 false _ A10.out).mono ?_); rintro e w' ⟨rfl, ⟨nd, rfl⟩⟩; refine ⟨_, rfl, ?_⟩))
            go_meet
            case rel => exact ⟨_, (false), (by first | rfl | (simp; done) | (simp [*]; done)), H', ⟨by have := HJ3.out; first | omega | exact Nat.le_refl _⟩, ⟨by repeat (first | (with_reducible first | exact HB.out | apply below_alloc | apply pw_below_drewN | apply below_drew1) | exact HB.out)⟩⟩
        case rest =>
          clear HC9
          try clear c1
          try clear c2
          try clear p2
          try clear c5
          try clear c5b0
          try clear c5b1
          try clear c6
          try clear c9
          try clear c11
          try clear c13
          try clear c14
          try clear c14b0
          try clear c14b1
          try clear c14b2
          try clear c16
          try clear c17
          try clear c17b0
          try clear c17b1
          try clear c17b2
          try clear c18
          try clear c18b0
          try clear c18b1
          try clear c18b2
          try clear c20
          try clear c21
          try clear c21b0
          try clear c21b1
          try clear c21b2
          try clear c23
          try clear c23b0
          try clear c23b1
          try clear c24
          try clear c24b0
          try clear c24b1
          try clear c24b2
          try clear p2
          obtain ⟨kq, x55_8, rfl, HA, HJ8, HB⟩ := hcut
          cases kq with
          | zero => exact absurd HA.out (by simp [conchlaw1_TextNames.j1])
          | succ kj8 =>
            have H := HA.out
            clear HA
            simp only [conchlaw1_TextNames.j1] at H
            by_cases c26 : x55_8 = true
            · subst c26
              have H1 : (some false) = some r := by rw [if_pos rfl] at H; exact H
              clear H
              have H := H1
              clear H1
              obtain rfl := Option.some.inj H
              go_wp2
              go_ret
              exact ⟨by first | rfl | (simp [errW_none, errW_some] <;> rfl) | (simp [*, errW_none, errW_some] <;> rfl), by repeat (first | (with_reducible first | exact HB.out | apply below_alloc | apply pw_below_drewN | apply below_drew1) | exact HB.out)⟩
            · replace c26 := Bool.eq_false_iff.mpr c26
              subst c26
              have H1 : (if a2 = 95 then (conchlaw1_TextNames.j2 kj8 a2 true) else (if a2 ≥ 97 then (if a2 ≤ 122 then (conchlaw1_TextNames.j2 kj8 a2 true) else (if a2 ≥ 65 then (conchlaw1_TextNames.j2 kj8 a2 (decide (a2 ≤ 90))) else (conchlaw1_TextNames.j2 kj8 a2 false))) else (if a2 ≥ 65 then (conchlaw1_TextNames.j2 kj8 a2 (decide (a2 ≤ 90))) else (conchlaw1_TextNames.j2 kj8 a2 false)))) = some r := by rw [if_neg (show ¬ (false = true) by decide)] at H; exact H
              clear H
              have H := H1
              clear H1
              have HC27 := Aside0.mk H
              clear H
              go_upto_region 5 with (fail)
              go_cut [7] (fun v7 wc => ∃ (kq : Nat) (x7_26 : Bool), v7 = .bool x7_26 ∧ Aside0 (conchlaw1_TextNames.j2 kq a2 x7_26 = some r) ∧ Aside0 (kq ≤ kj8) ∧ Aside0 (Below w.heap.size w wc))
              case first =>
                have H := HC27.out
                clear HC27
                by_cases c28 : a2 = 95
                · rw [if_pos c28] at H
                  have c28b0 : (a2 == 95) = true := beq_iff_eq.mpr c28
                  have c28b1 : (a2 != 95) = false := bne_eq_false_iff_eq.mpr c28
                  clear c28
                  (first | rw [c28b0] | (simp only [i64_w, i32_w]; rw [c28b0]) | skip)
                  have H' := Aside0.mk H
                  clear H
                  go_wp2
                  go_meet
                  case rel => exact ⟨_, (true), (by first | rfl | (simp; done) | (simp [*]; done)), H', ⟨by have := HJ3.out; have := HJ8.out; first | omega | exact Nat.le_refl _⟩, ⟨by repeat (first | (with_reducible first | exact HB.out | apply below_alloc | apply pw_below_drewN | apply below_drew1) | exact HB.out)⟩⟩
                · rw [if_neg c28] at H
                  have c28b0 : (a2 == 95) = false := beq_eq_false_iff_ne.mpr c28
                  have c28b1 : (a2 != 95) = true := bne_iff_ne.mpr c28
                  (first | rw [c28b0] | (simp only [i64_w, i32_w]; rw [c28b0]) | skip)
                  by_cases c29 : a2 ≥ 97
                  · rw [if_pos c29] at H
                    have c29b0 : decide (97 ≤ a2) = true := decide_eq_true c29
                    clear c29
                    by_cases c30 : a2 ≤ 122
                    · rw [if_pos c30] at H
                      have c30b0 : decide (a2 ≤ 122) = true := decide_eq_true c30
                      clear c30
                      have H' := Aside0.mk H
                      clear H
                      go_wp2
                      go_meet
                      case rel => exact ⟨_, (true), (by first | rfl | (simp; done) | (simp [*]; done)), H', ⟨by have := HJ3.out; have := HJ8.out; first | omega | exact Nat.le_refl _⟩, ⟨by repeat (first | (with_reducible first | exact HB.out | apply below_alloc | apply pw_below_drewN | apply below_drew1) | exact HB.out)⟩⟩
                    · rw [if_neg c30] at H
                      have c30b0 : decide (a2 ≤ 122) = false := decide_eq_false c30
                      clear c30
                      by_cases c31 : a2 ≥ 65
                      · rw [if_pos c31] at H
                        have c31b0 : decide (65 ≤ a2) = true := decide_eq_true c31
                        clear c31
                        have H' := Aside0.mk H
                        clear H
                        go_wp2
                        go_meet
                        case rel => exact ⟨_, (decide (a2 ≤ 90)), (by first | rfl | (simp; done) | (simp [*]; done)), H', ⟨by have := HJ3.out; have := HJ8.out; first | omega | exact Nat.le_refl _⟩, ⟨by repeat (first | (with_reducible first | exact HB.out | apply below_alloc | apply pw_below_drewN | apply below_drew1) | exact HB.out)⟩⟩
                      · rw [if_neg c31] at H
                        have c31b0 : decide (65 ≤ a2) = false := decide_eq_false c31
                        clear c31
                        have H' := Aside0.mk H
                        clear H
                        go_wp2
                        go_meet
                        case rel => exact ⟨_, (false), (by first | rfl | (simp; done) | (simp [*]; done)), H', ⟨by have := HJ3.out; have := HJ8.out; first | omega | exact Nat.le_refl _⟩, ⟨by repeat (first | (with_reducible first | exact HB.out | apply below_alloc | apply pw_below_drewN | apply below_drew1) | exact HB.out)⟩⟩
                  · rw [if_neg c29] at H
                    have c29b0 : decide (97 ≤ a2) = false := decide_eq_false c29
                    clear c29
                    by_cases c32 : a2 ≥ 65
                    · rw [if_pos c32] at H
                      have c32b0 : decide (65 ≤ a2) = true := decide_eq_true c32
                      clear c32
                      have H' := Aside0.mk H
                      clear H
                      go_wp2
                      go_meet
                      case rel => exact ⟨_, (decide (a2 ≤ 90)), (by first | rfl | (simp; done) | (simp [*]; done)), H', ⟨by have := HJ3.out; have := HJ8.out; first | omega | exact Nat.le_refl _⟩, ⟨by repeat (first | (with_reducible first | exact HB.out | apply below_alloc | apply pw_below_drewN | apply below_drew1) | exact HB.out)⟩⟩
                    · rw [if_neg c32] at H
                      have c32b0 : decide (65 ≤ a2) = false := decide_eq_false c32
                      clear c32
                      have H' := Aside0.mk H
                      clear H
                      go_wp2
                      go_meet
                      case rel => exact ⟨_, (false), (by first | rfl | (simp; done) | (simp [*]; done)), H', ⟨by have := HJ3.out; have := HJ8.out; first | omega | exact Nat.le_refl _⟩, ⟨by repeat (first | (with_reducible first | exact HB.out | apply below_alloc | apply pw_below_drewN | apply below_drew1) | exact HB.out)⟩⟩
              case rest =>
                clear HC27
                try clear c1
                try clear c2
                try clear p2
                try clear c3
                try clear c5
                try clear c5b0
                try clear c5b1
                try clear c6
                try clear c9
                try clear c11
                try clear c13
                try clear c14
                try clear c14b0
                try clear c14b1
                try clear c14b2
                try clear c16
                try clear c17
                try clear c17b0
                try clear c17b1
                try clear c17b2
                try clear c18
                try clear c18b0
                try clear c18b1
                try clear c18b2
                try clear c20
                try clear c21
                try clear c21b0
                try clear c21b1
                try clear c21b2
                try clear c23
                try clear c23b0
                try clear c23b1
                try clear c24
                try clear c24b0
                try clear c24b1
                try clear c24b2
                try clear c26
                try clear c28
                try clear c28b0
                try clear c28b1
                try clear c29
                try clear c29b0
                try clear c30
                try clear c30b0
                try clear c31
                try clear c31b0
                try clear c32
                try clear c32b0
                try clear p2
                obtain ⟨kq, x7_26, rfl, HA, HJ26, HB⟩ := hcut
                cases kq with
                | zero => exact absurd HA.out (by simp [conchlaw1_TextNames.j2])
                | succ kj26 =>
                  have H := HA.out
                  clear HA
                  simp only [conchlaw1_TextNames.j2] at H
                  obtain ⟨y190, hy190⟩ : ∃ y_ : List Int, y_ = (([a2] : List Int)) := ⟨_, rfl⟩
                  replace H : ((text_Name.f kj26 (strOfNums y190)).bind fun t193 => (if (t193 == x7_26) = true then (if 1 + (strOfNums y190).size ≤ 9223372036854775807 then ((text_Name.f kj26 ((⟨#[97]⟩ : ByteArray) ++ (strOfNums y190))).bind fun t194 => (if x7_26 = true then (if (t194 == true) = true then ((text_Name.f kj26 (⟨#[]⟩ : ByteArray)).bind fun t195 => (if t195 = true then (some false) else ((conchlaw1_awake.f kj26).bind fun t196 => (some t196)))) else (some false)) else (if a2 ≥ 48 then (if (t194 == (decide (a2 ≤ 57))) = true then ((text_Name.f kj26 (⟨#[]⟩ : ByteArray)).bind fun t197 => (if t197 = true then (some false) else ((conchlaw1_awake.f kj26).bind fun t198 => (some t198)))) else (some false)) else (if (t194 == false) = true then ((text_Name.f kj26 (⟨#[]⟩ : ByteArray)).bind fun t199 => (if t199 = true then (some false) else ((conchlaw1_awake.f kj26).bind fun t200 => (some t200)))) else (some false))))) else (none)) else (some false))) = some r := by first | (rw [hy190]; with_reducible exact H) | (have H2_ := (Option.bind_some _ _).symm.trans H; rw [hy190]; with_reducible exact H2_) | (have H2_ := (Option.bind_some _ _).symm.trans H; with_reducible exact H2_) | with_reducible exact H | (rw [hy190]; exact H) | exact H
                  have Ny190 := Aside0.mk hy190
                  clear hy190
                  replace H := Option.bind_eq_some_iff.mp H
                  obtain ⟨t193, A330, H⟩ := H
                  replace H : (if (t193 == x7_26) = true then (if 1 + (strOfNums y190).size ≤ 9223372036854775807 then ((text_Name.f kj26 ((⟨#[97]⟩ : ByteArray) ++ (strOfNums y190))).bind fun t194 => (if x7_26 = true then (if (t194 == true) = true then ((text_Name.f kj26 (⟨#[]⟩ : ByteArray)).bind fun t195 => (if t195 = true then (some false) else ((conchlaw1_awake.f kj26).bind fun t196 => (some t196)))) else (some false)) else (if a2 ≥ 48 then (if (t194 == (decide (a2 ≤ 57))) = true then ((text_Name.f kj26 (⟨#[]⟩ : ByteArray)).bind fun t197 => (if t197 = true then (some false) else ((conchlaw1_awake.f kj26).bind fun t198 => (some t198)))) else (some false)) else (if (t194 == false) = true then ((text_Name.f kj26 (⟨#[]⟩ : ByteArray)).bind fun t199 => (if t199 = true then (some false) else ((conchlaw1_awake.f kj26).bind fun t200 => (some t200)))) else (some false))))) else (none)) else (some false)) = some r := H
                  have A33 := Aside0.mk A330
                  clear A330
                  by_cases c34 : (t193 == x7_26) = true
                  · rw [if_pos c34] at H
                    have c34b0 : (t193 == x7_26) = true := c34
                    (try (have c34b1 : decide (t193 = x7_26) = true := by simpa using c34))
                    (try (have c34b2 : (t193 == x7_26) = true := by simpa using c34))
                    clear c34
                    by_cases c35 : 1 + (strOfNums y190).size ≤ 9223372036854775807
                    · rw [if_pos c35] at H
                      have c35b0 := eq_true c35
                      have c35b1 : decide (1 + (strOfNums y190).size ≤ 9223372036854775807) = true := decide_eq_true c35
                      try have c35b2 : (9223372036854775807 < 1 + (strOfNums y190).size) = False := eq_false (Nat.not_lt.2 c35)
                      replace H := Option.bind_eq_some_iff.mp H
                      obtain ⟨t194, A360, H⟩ := H
                      replace H : (if x7_26 = true then (if (t194 == true) = true then ((text_Name.f kj26 (⟨#[]⟩ : ByteArray)).bind fun t195 => (if t195 = true then (some false) else ((conchlaw1_awake.f kj26).bind fun t196 => (some t196)))) else (some false)) else (if a2 ≥ 48 then (if (t194 == (decide (a2 ≤ 57))) = true then ((text_Name.f kj26 (⟨#[]⟩ : ByteArray)).bind fun t197 => (if t197 = true then (some false) else ((conchlaw1_awake.f kj26).bind fun t198 => (some t198)))) else (some false)) else (if (t194 == false) = true then ((text_Name.f kj26 (⟨#[]⟩ : ByteArray)).bind fun t199 => (if t199 = true then (some false) else ((conchlaw1_awake.f kj26).bind fun t200 => (some t200)))) else (some false)))) = some r := H
                      have A36 := Aside0.mk A360
                      clear A360
                      by_cases c37 : x7_26 = true
                      · subst c37
                        have H1 : (if (t194 == true) = true then ((text_Name.f kj26 (⟨#[]⟩ : ByteArray)).bind fun t195 => (if t195 = true then (some false) else ((conchlaw1_awake.f kj26).bind fun t196 => (some t196)))) else (some false)) = some r := by rw [if_pos rfl] at H; exact H
                        clear H
                        have H := H1
                        clear H1
                        by_cases c38 : (t194 == true) = true
                        · rw [if_pos c38] at H
                          have c38b0 : (t194 == true) = true := c38
                          (try (have c38b1 : decide (t194 = true) = true := by simpa using c38))
                          (try (have c38b2 : (t194 == true) = true := by simpa using c38))
                          clear c38
                          replace H := Option.bind_eq_some_iff.mp H
                          obtain ⟨t195, A390, H⟩ := H
                          replace H : (if t195 = true then (some false) else ((conchlaw1_awake.f kj26).bind fun t196 => (some t196))) = some r := H
                          have A39 := Aside0.mk A390
                          clear A390
                          by_cases c40 : t195 = true
                          · subst c40
                            have H1 : (some false) = some r := by rw [if_pos rfl] at H; exact H
                            clear H
                            have H := H1
                            clear H1
                            obtain rfl := Option.some.inj H
                            go_wp2_with (first | ((with_reducible refine gate_dst (N := 75) rfl ?_); (try (refine gate_guard (by rfl) ?_; dsimp only)); refine Kd.R_lit (Kd.int .u8) _ 5 ?hg (N := 75) ?hd (xs := ([a2] : List Int)) (inner := [.int .u8 a2]) (ok := fun _ => True) (okp := fun _ => True) ?hr ?hp (fun _ hk => hk) trivial (Below.refl _ _) (Nat.le_refl _) (by simp) ?_; (case hd => rfl); (case hg => rfl); (case hr => first | (go_simp; done) | (go_simp; rfl)); (case hp => exact (Reps.one (show Kd.M (Kd.int .u8) _ _ _ a2 [.int .u8 a2] from rfl) (Reps.none _ _))); intro v191 w41 ho42 hb hg_ hnew_; clear hg_ hnew_; (first | rw [← Ny190.out] at ho42 | (simp only [Int.reduceToNat] at ho42; rw [← Ny190.out] at ho42)); have n0_ := Aside0.mk (Kd.R_lower ho42 (below_size (by repeat (first | (with_reducible first | exact HB.out | apply below_alloc | apply pw_below_drewN | apply below_drew1) | exact HB.out)))); have n1_ := Aside0.mk (below_step (by repeat (first | (with_reducible first | exact HB.out | apply below_alloc | apply pw_below_drewN | apply below_drew1) | exact HB.out)) hb); clear HB; have HO192 := n0_; have HB := n1_; clear n0_ n1_; clear hb ho42; have hcv43 := own_string (P := Tryd.prog) Tryd.underlying34 Tryd.underlying5 Tryd.underlying9 (Kd.own_of_R HO192.out)) | ((with_reducible refine gate_callee (f := 13) rfl ?_); refine goesL_ (some 78) rfl rfl Tryd.func13 (by kernel_rfl) rfl #[.string (strOfNums y190)] rfl (by (try simp only [List.map_toArray, List.map_cons, List.map_nil]); first | done | rfl | (simp only [List.length_drop, List.length_take]; rfl)) ?_; (with_reducible refine (text_Name.calls kj26 (strOfNums y190) t193 _ A33.out).mono ?_); rintro e w' ⟨rfl, ⟨nd, rfl⟩⟩; refine ⟨_, rfl, ?_⟩) | (go_at_call 13; (with_reducible refine (text_Name.calls kj26 ((⟨#[97]⟩ : ByteArray) ++ (strOfNums y190)) t194 _ A36.out).mono ?_); rintro e w' ⟨rfl, ⟨nd, rfl⟩⟩) | (go_at_call 13; (with_reducible refine (text_Name.calls kj26 (⟨#[]⟩ : ByteArray) true _ A39.out).mono ?_); rintro e w' ⟨rfl, ⟨nd, rfl⟩⟩))
                            go_ret
                            exact ⟨by first | rfl | (simp [errW_none, errW_some] <;> rfl) | (simp [*, errW_none, errW_some] <;> rfl), by repeat (first | (with_reducible first | exact HB.out | apply below_alloc | apply pw_below_drewN | apply below_drew1) | exact HB.out)⟩
                          · replace c40 := Bool.eq_false_iff.mpr c40
                            subst c40
                            have H1 : ((conchlaw1_awake.f kj26).bind fun t196 => (some t196)) = some r := by rw [if_neg (show ¬ (false = true) by decide)] at H; exact H
                            clear H
                            have H := H1
                            clear H1
                            replace H := Option.bind_eq_some_iff.mp H
                            obtain ⟨t196, A440, H⟩ := H
                            replace H : (some t196) = some r := H
                            have A44 := Aside0.mk A440
                            clear A440
                            obtain rfl := Option.some.inj H
                            go_wp2_with (first | ((with_reducible refine gate_dst (N := 75) rfl ?_); (try (refine gate_guard (by rfl) ?_; dsimp only)); refine Kd.R_lit (Kd.int .u8) _ 5 ?hg (N := 75) ?hd (xs := ([a2] : List Int)) (inner := [.int .u8 a2]) (ok := fun _ => True) (okp := fun _ => True) ?hr ?hp (fun _ hk => hk) trivial (Below.refl _ _) (Nat.le_refl _) (by simp) ?_; (case hd => rfl); (case hg => rfl); (case hr => first | (go_simp; done) | (go_simp; rfl)); (case hp => exact (Reps.one (show Kd.M (Kd.int .u8) _ _ _ a2 [.int .u8 a2] from rfl) (Reps.none _ _))); intro v191 w45 ho46 hb hg_ hnew_; clear hg_ hnew_; (first | rw [← Ny190.out] at ho46 | (simp only [Int.reduceToNat] at ho46; rw [← Ny190.out] at ho46)); have n0_ := Aside0.mk (Kd.R_lower ho46 (below_size (by repeat (first | (with_reducible first | exact HB.out | apply below_alloc | apply pw_below_drewN | apply below_drew1) | exact HB.out)))); have n1_ := Aside0.mk (below_step (by repeat (first | (with_reducible first | exact HB.out | apply below_alloc | apply pw_below_drewN | apply below_drew1) | exact HB.out)) hb); clear HB; have HO192 := n0_; have HB := n1_; clear n0_ n1_; clear hb ho46; have hcv47 := own_string (P := Tryd.prog) Tryd.underlying34 Tryd.underlying5 Tryd.underlying9 (Kd.own_of_R HO192.out)) | ((with_reducible refine gate_callee (f := 13) rfl ?_); refine goesL_ (some 78) rfl rfl Tryd.func13 (by kernel_rfl) rfl #[.string (strOfNums y190)] rfl (by (try simp only [List.map_toArray, List.map_cons, List.map_nil]); first | done | rfl | (simp only [List.length_drop, List.length_take]; rfl)) ?_; (with_reducible refine (text_Name.calls kj26 (strOfNums y190) t193 _ A33.out).mono ?_); rintro e w' ⟨rfl, ⟨nd, rfl⟩⟩; refine ⟨_, rfl, ?_⟩) | (go_at_call 13; (with_reducible refine (text_Name.calls kj26 ((⟨#[97]⟩ : ByteArray) ++ (strOfNums y190)) t194 _ A36.out).mono ?_); rintro e w' ⟨rfl, ⟨nd, rfl⟩⟩) | (go_at_call 13; (with_reducible refine (text_Name.calls kj26 (⟨#[]⟩ : ByteArray) false _ A39.out).mono ?_); rintro e w' ⟨rfl, ⟨nd, rfl⟩⟩) | (go_at_call 9; (with_reducible refine (conchlaw1_awake.calls kj26  t196 _ A44.out).mono ?_); rintro e w48 ⟨rfl, hb⟩; have n0_ := Aside0.mk (Kd.R_below (by (with_reducible repeat (first | apply Kd.R_alloc | apply Kd.R_drewN | apply Kd.R_drew)); exact HO192.out) hb); have n1_ := Aside0.mk (below_step (by repeat (first | (with_reducible first | exact HB.out | apply below_alloc | apply pw_below_drewN | apply below_drew1) | exact HB.out)) hb); clear HO192; clear HB; have HO192 := n0_; have HB := n1_; clear n0_ n1_; (try clear hb); (try clear hb2); (try clear hk); (try clear hi)))
                            go_ret
                            exact ⟨by first | rfl | (simp [errW_none, errW_some] <;> rfl) | (simp [*, errW_none, errW_some] <;> rfl), by repeat (first | (with_reducible first | exact HB.out | apply below_alloc | apply pw_below_drewN | apply below_drew1) | exact HB.out)⟩
                        · rw [if_neg c38] at H
                          have c38b0 : (t194 == true) = false := by simpa using c38
                          (try (have c38b1 : decide (t194 = true) = false := by simpa using c38))
                          (try (have c38b2 : (t194 == true) = false := by simpa using c38))
                          (try (have c38b3 : ¬ (t194 = true) := by simpa using c38))
                          clear c38
                          obtain rfl := Option.some.inj H
                          go_wp2_with (first | ((with_reducible refine gate_dst (N := 75) rfl ?_); (try (refine gate_guard (by rfl) ?_; dsimp only)); refine Kd.R_lit (Kd.int .u8) _ 5 ?hg (N := 75) ?hd (xs := ([a2] : List Int)) (inner := [.int .u8 a2]) (ok := fun _ => True) (okp := fun _ => True) ?hr ?hp (fun _ hk => hk) trivial (Below.refl _ _) (Nat.le_refl _) (by simp) ?_; (case hd => rfl); (case hg => rfl); (case hr => first | (go_simp; done) | (go_simp; rfl)); (case hp => exact (Reps.one (show Kd.M (Kd.int .u8) _ _ _ a2 [.int .u8 a2] from rfl) (Reps.none _ _))); intro v191 w49 ho50 hb hg_ hnew_; clear hg_ hnew_; (first | rw [← Ny190.out] at ho50 | (simp only [Int.reduceToNat] at ho50; rw [← Ny190.out] at ho50)); have n0_ := Aside0.mk (Kd.R_lower ho50 (below_size (by repeat (first | (with_reducible first | exact HB.out | apply below_alloc | apply pw_below_drewN | apply below_drew1) | exact HB.out)))); have n1_ := Aside0.mk (below_step (by repeat (first | (with_reducible first | exact HB.out | apply below_alloc | apply pw_below_drewN | apply below_drew1) | exact HB.out)) hb); clear HB; have HO192 := n0_; have HB := n1_; clear n0_ n1_; clear hb ho50; have hcv51 := own_string (P := Tryd.prog) Tryd.underlying34 Tryd.underlying5 Tryd.underlying9 (Kd.own_of_R HO192.out)) | ((with_reducible refine gate_callee (f := 13) rfl ?_); refine goesL_ (some 78) rfl rfl Tryd.func13 (by kernel_rfl) rfl #[.string (strOfNums y190)] rfl (by (try simp only [List.map_toArray, List.map_cons, List.map_nil]); first | done | rfl | (simp only [List.length_drop, List.length_take]; rfl)) ?_; (with_reducible refine (text_Name.calls kj26 (strOfNums y190) t193 _ A33.out).mono ?_); rintro e w' ⟨rfl, ⟨nd, rfl⟩⟩; refine ⟨_, rfl, ?_⟩) | (go_at_call 13; (with_reducible refine (text_Name.calls kj26 ((⟨#[97]⟩ : ByteArray) ++ (strOfNums y190)) t194 _ A36.out).mono ?_); rintro e w' ⟨rfl, ⟨nd, rfl⟩⟩))
                          go_ret
                          exact ⟨by first | rfl | (simp [errW_none, errW_some] <;> rfl) | (simp [*, errW_none, errW_some] <;> rfl), by repeat (first | (with_reducible first | exact HB.out | apply below_alloc | apply pw_below_drewN | apply below_drew1) | exact HB.out)⟩
                      · replace c37 := Bool.eq_false_iff.mpr c37
                        subst c37
                        have H1 : (if a2 ≥ 48 then (if (t194 == (decide (a2 ≤ 57))) = true then ((text_Name.f kj26 (⟨#[]⟩ : ByteArray)).bind fun t197 => (if t197 = true then (some false) else ((conchlaw1_awake.f kj26).bind fun t198 => (some t198)))) else (some false)) else (if (t194 == false) = true then ((text_Name.f kj26 (⟨#[]⟩ : ByteArray)).bind fun t199 => (if t199 = true then (some false) else ((conchlaw1_awake.f kj26).bind fun t200 => (some t200)))) else (some false))) = some r := by rw [if_neg (show ¬ (false = true) by decide)] at H; exact H
                        clear H
                        have H := H1
                        clear H1
                        by_cases c52 : a2 ≥ 48
                        · rw [if_pos c52] at H
                          have c52b0 : decide (48 ≤ a2) = true := decide_eq_true c52
                          clear c52
                          by_cases c53 : (t194 == (decide (a2 ≤ 57))) = true
                          · rw [if_pos c53] at H
                            have c53b0 : (t194 == (decide (a2 ≤ 57))) = true := c53
                            (try (have c53b1 : decide (t194 = (decide (a2 ≤ 57))) = true := by simpa using c53))
                            (try (have c53b2 : (t194 == (decide (a2 ≤ 57))) = true := by simpa using c53))
                            clear c53
                            replace H := Option.bind_eq_some_iff.mp H
                            obtain ⟨t197, A540, H⟩ := H
                            replace H : (if t197 = true then (some false) else ((conchlaw1_awake.f kj26).bind fun t198 => (some t198))) = some r := H
                            have A54 := Aside0.mk A540
                            clear A540
                            by_cases c55 : t197 = true
                            · subst c55
                              have H1 : (some false) = some r := by rw [if_pos rfl] at H; exact H
                              clear H
                              have H := H1
                              clear H1
                              obtain rfl := Option.some.inj H
                              go_wp2_with (first | ((with_reducible refine gate_dst (N := 75) rfl ?_); (try (refine gate_guard (by rfl) ?_; dsimp only)); refine Kd.R_lit (Kd.int .u8) _ 5 ?hg (N := 75) ?hd (xs := ([a2] : List Int)) (inner := [.int .u8 a2]) (ok := fun _ => True) (okp := fun _ => True) ?hr ?hp (fun _ hk => hk) trivial (Below.refl _ _) (Nat.le_refl _) (by simp) ?_; (case hd => rfl); (case hg => rfl); (case hr => first | (go_simp; done) | (go_simp; rfl)); (case hp => exact (Reps.one (show Kd.M (Kd.int .u8) _ _ _ a2 [.int .u8 a2] from rfl) (Reps.none _ _))); intro v191 w56 ho57 hb hg_ hnew_; clear hg_ hnew_; (first | rw [← Ny190.out] at ho57 | (simp only [Int.reduceToNat] at ho57; rw [← Ny190.out] at ho57)); have n0_ := Aside0.mk (Kd.R_lower ho57 (below_size (by repeat (first | (with_reducible first | exact HB.out | apply below_alloc | apply pw_below_drewN | apply below_drew1) | exact HB.out)))); have n1_ := Aside0.mk (below_step (by repeat (first | (with_reducible first | exact HB.out | apply below_alloc | apply pw_below_drewN | apply below_drew1) | exact HB.out)) hb); clear HB; have HO192 := n0_; have HB := n1_; clear n0_ n1_; clear hb ho57; have hcv58 := own_string (P := Tryd.prog) Tryd.underlying34 Tryd.underlying5 Tryd.underlying9 (Kd.own_of_R HO192.out)) | ((with_reducible refine gate_callee (f := 13) rfl ?_); refine goesL_ (some 78) rfl rfl Tryd.func13 (by kernel_rfl) rfl #[.string (strOfNums y190)] rfl (by (try simp only [List.map_toArray, List.map_cons, List.map_nil]); first | done | rfl | (simp only [List.length_drop, List.length_take]; rfl)) ?_; (with_reducible refine (text_Name.calls kj26 (strOfNums y190) t193 _ A33.out).mono ?_); rintro e w' ⟨rfl, ⟨nd, rfl⟩⟩; refine ⟨_, rfl, ?_⟩) | (go_at_call 13; (with_reducible refine (text_Name.calls kj26 ((⟨#[97]⟩ : ByteArray) ++ (strOfNums y190)) t194 _ A36.out).mono ?_); rintro e w' ⟨rfl, ⟨nd, rfl⟩⟩) | (go_at_call 13; (with_reducible refine (text_Name.calls kj26 (⟨#[]⟩ : ByteArray) true _ A54.out).mono ?_); rintro e w' ⟨rfl, ⟨nd, rfl⟩⟩))
                              go_ret
                              exact ⟨by first | rfl | (simp [errW_none, errW_some] <;> rfl) | (simp [*, errW_none, errW_some] <;> rfl), by repeat (first | (with_reducible first | exact HB.out | apply below_alloc | apply pw_below_drewN | apply below_drew1) | exact HB.out)⟩
                            · replace c55 := Bool.eq_false_iff.mpr c55
                              subst c55
                              have H1 : ((conchlaw1_awake.f kj26).bind fun t198 => (some t198)) = some r := by rw [if_neg (show ¬ (false = true) by decide)] at H; exact H
                              clear H
                              have H := H1
                              clear H1
                              replace H := Option.bind_eq_some_iff.mp H
                              obtain ⟨t198, A590, H⟩ := H
                              replace H : (some t198) = some r := H
                              have A59 := Aside0.mk A590
                              clear A590
                              obtain rfl := Option.some.inj H
                              go_wp2_with (first | ((with_reducible refine gate_dst (N := 75) rfl ?_); (try (refine gate_guard (by rfl) ?_; dsimp only)); refine Kd.R_lit (Kd.int .u8) _ 5 ?hg (N := 75) ?hd (xs := ([a2] : List Int)) (inner := [.int .u8 a2]) (ok := fun _ => True) (okp := fun _ => True) ?hr ?hp (fun _ hk => hk) trivial (Below.refl _ _) (Nat.le_refl _) (by simp) ?_; (case hd => rfl); (case hg => rfl); (case hr => first | (go_simp; done) | (go_simp; rfl)); (case hp => exact (Reps.one (show Kd.M (Kd.int .u8) _ _ _ a2 [.int .u8 a2] from rfl) (Reps.none _ _))); intro v191 w60 ho61 hb hg_ hnew_; clear hg_ hnew_; (first | rw [← Ny190.out] at ho61 | (simp only [Int.reduceToNat] at ho61; rw [← Ny190.out] at ho61)); have n0_ := Aside0.mk (Kd.R_lower ho61 (below_size (by repeat (first | (with_reducible first | exact HB.out | apply below_alloc | apply pw_below_drewN | apply below_drew1) | exact HB.out)))); have n1_ := Aside0.mk (below_step (by repeat (first | (with_reducible first | exact HB.out | apply below_alloc | apply pw_below_drewN | apply below_drew1) | exact HB.out)) hb); clear HB; have HO192 := n0_; have HB := n1_; clear n0_ n1_; clear hb ho61; have hcv62 := own_string (P := Tryd.prog) Tryd.underlying34 Tryd.underlying5 Tryd.underlying9 (Kd.own_of_R HO192.out)) | ((with_reducible refine gate_callee (f := 13) rfl ?_); refine goesL_ (some 78) rfl rfl Tryd.func13 (by kernel_rfl) rfl #[.string (strOfNums y190)] rfl (by (try simp only [List.map_toArray, List.map_cons, List.map_nil]); first | done | rfl | (simp only [List.length_drop, List.length_take]; rfl)) ?_; (with_reducible refine (text_Name.calls kj26 (strOfNums y190) t193 _ A33.out).mono ?_); rintro e w' ⟨rfl, ⟨nd, rfl⟩⟩; refine ⟨_, rfl, ?_⟩) | (go_at_call 13; (with_reducible refine (text_Name.calls kj26 ((⟨#[97]⟩ : ByteArray) ++ (strOfNums y190)) t194 _ A36.out).mono ?_); rintro e w' ⟨rfl, ⟨nd, rfl⟩⟩) | (go_at_call 13; (with_reducible refine (text_Name.calls kj26 (⟨#[]⟩ : ByteArray) false _ A54.out).mono ?_); rintro e w' ⟨rfl, ⟨nd, rfl⟩⟩) | (go_at_call 9; (with_reducible refine (conchlaw1_awake.calls kj26  t198 _ A59.out).mono ?_); rintro e w63 ⟨rfl, hb⟩; have n0_ := Aside0.mk (Kd.R_below (by (with_reducible repeat (first | apply Kd.R_alloc | apply Kd.R_drewN | apply Kd.R_drew)); exact HO192.out) hb); have n1_ := Aside0.mk (below_step (by repeat (first | (with_reducible first | exact HB.out | apply below_alloc | apply pw_below_drewN | apply below_drew1) | exact HB.out)) hb); clear HO192; clear HB; have HO192 := n0_; have HB := n1_; clear n0_ n1_; (try clear hb); (try clear hb2); (try clear hk); (try clear hi)))
                              go_ret
                              exact ⟨by first | rfl | (simp [errW_none, errW_some] <;> rfl) | (simp [*, errW_none, errW_some] <;> rfl), by repeat (first | (with_reducible first | exact HB.out | apply below_alloc | apply pw_below_drewN | apply below_drew1) | exact HB.out)⟩
                          · rw [if_neg c53] at H
                            have c53b0 : (t194 == (decide (a2 ≤ 57))) = false := by simpa using c53
                            (try (have c53b1 : decide (t194 = (decide (a2 ≤ 57))) = false := by simpa using c53))
                            (try (have c53b2 : (t194 == (decide (a2 ≤ 57))) = false := by simpa using c53))
                            (try (have c53b3 : ¬ (t194 = (decide (a2 ≤ 57))) := by simpa using c53))
                            clear c53
                            obtain rfl := Option.some.inj H
                            go_wp2_with (first | ((with_reducible refine gate_dst (N := 75) rfl ?_); (try (refine gate_guard (by rfl) ?_; dsimp only)); refine Kd.R_lit (Kd.int .u8) _ 5 ?hg (N := 75) ?hd (xs := ([a2] : List Int)) (inner := [.int .u8 a2]) (ok := fun _ => True) (okp := fun _ => True) ?hr ?hp (fun _ hk => hk) trivial (Below.refl _ _) (Nat.le_refl _) (by simp) ?_; (case hd => rfl); (case hg => rfl); (case hr => first | (go_simp; done) | (go_simp; rfl)); (case hp => exact (Reps.one (show Kd.M (Kd.int .u8) _ _ _ a2 [.int .u8 a2] from rfl) (Reps.none _ _))); intro v191 w64 ho65 hb hg_ hnew_; clear hg_ hnew_; (first | rw [← Ny190.out] at ho65 | (simp only [Int.reduceToNat] at ho65; rw [← Ny190.out] at ho65)); have n0_ := Aside0.mk (Kd.R_lower ho65 (below_size (by repeat (first | (with_reducible first | exact HB.out | apply below_alloc | apply pw_below_drewN | apply below_drew1) | exact HB.out)))); have n1_ := Aside0.mk (below_step (by repeat (first | (with_reducible first | exact HB.out | apply below_alloc | apply pw_below_drewN | apply below_drew1) | exact HB.out)) hb); clear HB; have HO192 := n0_; have HB := n1_; clear n0_ n1_; clear hb ho65; have hcv66 := own_string (P := Tryd.prog) Tryd.underlying34 Tryd.underlying5 Tryd.underlying9 (Kd.own_of_R HO192.out)) | ((with_reducible refine gate_callee (f := 13) rfl ?_); refine goesL_ (some 78) rfl rfl Tryd.func13 (by kernel_rfl) rfl #[.string (strOfNums y190)] rfl (by (try simp only [List.map_toArray, List.map_cons, List.map_nil]); first | done | rfl | (simp only [List.length_drop, List.length_take]; rfl)) ?_; (with_reducible refine (text_Name.calls kj26 (strOfNums y190) t193 _ A33.out).mono ?_); rintro e w' ⟨rfl, ⟨nd, rfl⟩⟩; refine ⟨_, rfl, ?_⟩) | (go_at_call 13; (with_reducible refine (text_Name.calls kj26 ((⟨#[97]⟩ : ByteArray) ++ (strOfNums y190)) t194 _ A36.out).mono ?_); rintro e w' ⟨rfl, ⟨nd, rfl⟩⟩))
                            go_ret
                            exact ⟨by first | rfl | (simp [errW_none, errW_some] <;> rfl) | (simp [*, errW_none, errW_some] <;> rfl), by repeat (first | (with_reducible first | exact HB.out | apply below_alloc | apply pw_below_drewN | apply below_drew1) | exact HB.out)⟩
                        · rw [if_neg c52] at H
                          have c52b0 : decide (48 ≤ a2) = false := decide_eq_false c52
                          clear c52
                          by_cases c67 : (t194 == false) = true
                          · rw [if_pos c67] at H
                            have c67b0 : (t194 == false) = true := c67
                            (try (have c67b1 : decide (t194 = false) = true := by simpa using c67))
                            (try (have c67b2 : (t194 == false) = true := by simpa using c67))
                            clear c67
                            replace H := Option.bind_eq_some_iff.mp H
                            obtain ⟨t199, A680, H⟩ := H
                            replace H : (if t199 = true then (some false) else ((conchlaw1_awake.f kj26).bind fun t200 => (some t200))) = some r := H
                            have A68 := Aside0.mk A680
                            clear A680
                            by_cases c69 : t199 = true
                            · subst c69
                              have H1 : (some false) = some r := by rw [if_pos rfl] at H; exact H
                              clear H
                              have H := H1
                              clear H1
                              obtain rfl := Option.some.inj H
                              go_wp2_with (first | ((with_reducible refine gate_dst (N := 75) rfl ?_); (try (refine gate_guard (by rfl) ?_; dsimp only)); refine Kd.R_lit (Kd.int .u8) _ 5 ?hg (N := 75) ?hd (xs := ([a2] : List Int)) (inner := [.int .u8 a2]) (ok := fun _ => True) (okp := fun _ => True) ?hr ?hp (fun _ hk => hk) trivial (Below.refl _ _) (Nat.le_refl _) (by simp) ?_; (case hd => rfl); (case hg => rfl); (case hr => first | (go_simp; done) | (go_simp; rfl)); (case hp => exact (Reps.one (show Kd.M (Kd.int .u8) _ _ _ a2 [.int .u8 a2] from rfl) (Reps.none _ _))); intro v191 w70 ho71 hb hg_ hnew_; clear hg_ hnew_; (first | rw [← Ny190.out] at ho71 | (simp only [Int.reduceToNat] at ho71; rw [← Ny190.out] at ho71)); have n0_ := Aside0.mk (Kd.R_lower ho71 (below_size (by repeat (first | (with_reducible first | exact HB.out | apply below_alloc | apply pw_below_drewN | apply below_drew1) | exact HB.out)))); have n1_ := Aside0.mk (below_step (by repeat (first | (with_reducible first | exact HB.out | apply below_alloc | apply pw_below_drewN | apply below_drew1) | exact HB.out)) hb); clear HB; have HO192 := n0_; have HB := n1_; clear n0_ n1_; clear hb ho71; have hcv72 := own_string (P := Tryd.prog) Tryd.underlying34 Tryd.underlying5 Tryd.underlying9 (Kd.own_of_R HO192.out)) | ((with_reducible refine gate_callee (f := 13) rfl ?_); refine goesL_ (some 78) rfl rfl Tryd.func13 (by kernel_rfl) rfl #[.string (strOfNums y190)] rfl (by (try simp only [List.map_toArray, List.map_cons, List.map_nil]); first | done | rfl | (simp only [List.length_drop, List.length_take]; rfl)) ?_; (with_reducible refine (text_Name.calls kj26 (strOfNums y190) t193 _ A33.out).mono ?_); rintro e w' ⟨rfl, ⟨nd, rfl⟩⟩; refine ⟨_, rfl, ?_⟩) | (go_at_call 13; (with_reducible refine (text_Name.calls kj26 ((⟨#[97]⟩ : ByteArray) ++ (strOfNums y190)) t194 _ A36.out).mono ?_); rintro e w' ⟨rfl, ⟨nd, rfl⟩⟩) | (go_at_call 13; (with_reducible refine (text_Name.calls kj26 (⟨#[]⟩ : ByteArray) true _ A68.out).mono ?_); rintro e w' ⟨rfl, ⟨nd, rfl⟩⟩))
                              go_ret
                              exact ⟨by first | rfl | (simp [errW_none, errW_some] <;> rfl) | (simp [*, errW_none, errW_some] <;> rfl), by repeat (first | (with_reducible first | exact HB.out | apply below_alloc | apply pw_below_drewN | apply below_drew1) | exact HB.out)⟩
                            · replace c69 := Bool.eq_false_iff.mpr c69
                              subst c69
                              have H1 : ((conchlaw1_awake.f kj26).bind fun t200 => (some t200)) = some r := by rw [if_neg (show ¬ (false = true) by decide)] at H; exact H
                              clear H
                              have H := H1
                              clear H1
                              replace H := Option.bind_eq_some_iff.mp H
                              obtain ⟨t200, A730, H⟩ := H
                              replace H : (some t200) = some r := H
                              have A73 := Aside0.mk A730
                              clear A730
                              obtain rfl := Option.some.inj H
                              go_wp2_with (first | ((with_reducible refine gate_dst (N := 75) rfl ?_); (try (refine gate_guard (by rfl) ?_; dsimp only)); refine Kd.R_lit (Kd.int .u8) _ 5 ?hg (N := 75) ?hd (xs := ([a2] : List Int)) (inner := [.int .u8 a2]) (ok := fun _ => True) (okp := fun _ => True) ?hr ?hp (fun _ hk => hk) trivial (Below.refl _ _) (Nat.le_refl _) (by simp) ?_; (case hd => rfl); (case hg => rfl); (case hr => first | (go_simp; done) | (go_simp; rfl)); (case hp => exact (Reps.one (show Kd.M (Kd.int .u8) _ _ _ a2 [.int .u8 a2] from rfl) (Reps.none _ _))); intro v191 w74 ho75 hb hg_ hnew_; clear hg_ hnew_; (first | rw [← Ny190.out] at ho75 | (simp only [Int.reduceToNat] at ho75; rw [← Ny190.out] at ho75)); have n0_ := Aside0.mk (Kd.R_lower ho75 (below_size (by repeat (first | (with_reducible first | exact HB.out | apply below_alloc | apply pw_below_drewN | apply below_drew1) | exact HB.out)))); have n1_ := Aside0.mk (below_step (by repeat (first | (with_reducible first | exact HB.out | apply below_alloc | apply pw_below_drewN | apply below_drew1) | exact HB.out)) hb); clear HB; have HO192 := n0_; have HB := n1_; clear n0_ n1_; clear hb ho75; have hcv76 := own_string (P := Tryd.prog) Tryd.underlying34 Tryd.underlying5 Tryd.underlying9 (Kd.own_of_R HO192.out)) | ((with_reducible refine gate_callee (f := 13) rfl ?_); refine goesL_ (some 78) rfl rfl Tryd.func13 (by kernel_rfl) rfl #[.string (strOfNums y190)] rfl (by (try simp only [List.map_toArray, List.map_cons, List.map_nil]); first | done | rfl | (simp only [List.length_drop, List.length_take]; rfl)) ?_; (with_reducible refine (text_Name.calls kj26 (strOfNums y190) t193 _ A33.out).mono ?_); rintro e w' ⟨rfl, ⟨nd, rfl⟩⟩; refine ⟨_, rfl, ?_⟩) | (go_at_call 13; (with_reducible refine (text_Name.calls kj26 ((⟨#[97]⟩ : ByteArray) ++ (strOfNums y190)) t194 _ A36.out).mono ?_); rintro e w' ⟨rfl, ⟨nd, rfl⟩⟩) | (go_at_call 13; (with_reducible refine (text_Name.calls kj26 (⟨#[]⟩ : ByteArray) false _ A68.out).mono ?_); rintro e w' ⟨rfl, ⟨nd, rfl⟩⟩) | (go_at_call 9; (with_reducible refine (conchlaw1_awake.calls kj26  t200 _ A73.out).mono ?_); rintro e w77 ⟨rfl, hb⟩; have n0_ := Aside0.mk (Kd.R_below (by (with_reducible repeat (first | apply Kd.R_alloc | apply Kd.R_drewN | apply Kd.R_drew)); exact HO192.out) hb); have n1_ := Aside0.mk (below_step (by repeat (first | (with_reducible first | exact HB.out | apply below_alloc | apply pw_below_drewN | apply below_drew1) | exact HB.out)) hb); clear HO192; clear HB; have HO192 := n0_; have HB := n1_; clear n0_ n1_; (try clear hb); (try clear hb2); (try clear hk); (try clear hi)))
                              go_ret
                              exact ⟨by first | rfl | (simp [errW_none, errW_some] <;> rfl) | (simp [*, errW_none, errW_some] <;> rfl), by repeat (first | (with_reducible first | exact HB.out | apply below_alloc | apply pw_below_drewN | apply below_drew1) | exact HB.out)⟩
                          · rw [if_neg c67] at H
                            have c67b0 : (t194 == false) = false := by simpa using c67
                            (try (have c67b1 : decide (t194 = false) = false := by simpa using c67))
                            (try (have c67b2 : (t194 == false) = false := by simpa using c67))
                            (try (have c67b3 : ¬ (t194 = false) := by simpa using c67))
                            clear c67
                            obtain rfl := Option.some.inj H
                            go_wp2_with (first | ((with_reducible refine gate_dst (N := 75) rfl ?_); (try (refine gate_guard (by rfl) ?_; dsimp only)); refine Kd.R_lit (Kd.int .u8) _ 5 ?hg (N := 75) ?hd (xs := ([a2] : List Int)) (inner := [.int .u8 a2]) (ok := fun _ => True) (okp := fun _ => True) ?hr ?hp (fun _ hk => hk) trivial (Below.refl _ _) (Nat.le_refl _) (by simp) ?_; (case hd => rfl); (case hg => rfl); (case hr => first | (go_simp; done) | (go_simp; rfl)); (case hp => exact (Reps.one (show Kd.M (Kd.int .u8) _ _ _ a2 [.int .u8 a2] from rfl) (Reps.none _ _))); intro v191 w78 ho79 hb hg_ hnew_; clear hg_ hnew_; (first | rw [← Ny190.out] at ho79 | (simp only [Int.reduceToNat] at ho79; rw [← Ny190.out] at ho79)); have n0_ := Aside0.mk (Kd.R_lower ho79 (below_size (by repeat (first | (with_reducible first | exact HB.out | apply below_alloc | apply pw_below_drewN | apply below_drew1) | exact HB.out)))); have n1_ := Aside0.mk (below_step (by repeat (first | (with_reducible first | exact HB.out | apply below_alloc | apply pw_below_drewN | apply below_drew1) | exact HB.out)) hb); clear HB; have HO192 := n0_; have HB := n1_; clear n0_ n1_; clear hb ho79; have hcv80 := own_string (P := Tryd.prog) Tryd.underlying34 Tryd.underlying5 Tryd.underlying9 (Kd.own_of_R HO192.out)) | ((with_reducible refine gate_callee (f := 13) rfl ?_); refine goesL_ (some 78) rfl rfl Tryd.func13 (by kernel_rfl) rfl #[.string (strOfNums y190)] rfl (by (try simp only [List.map_toArray, List.map_cons, List.map_nil]); first | done | rfl | (simp only [List.length_drop, List.length_take]; rfl)) ?_; (with_reducible refine (text_Name.calls kj26 (strOfNums y190) t193 _ A33.out).mono ?_); rintro e w' ⟨rfl, ⟨nd, rfl⟩⟩; refine ⟨_, rfl, ?_⟩) | (go_at_call 13; (with_reducible refine (text_Name.calls kj26 ((⟨#[97]⟩ : ByteArray) ++ (strOfNums y190)) t194 _ A36.out).mono ?_); rintro e w' ⟨rfl, ⟨nd, rfl⟩⟩))
                            go_ret
                            exact ⟨by first | rfl | (simp [errW_none, errW_some] <;> rfl) | (simp [*, errW_none, errW_some] <;> rfl), by repeat (first | (with_reducible first | exact HB.out | apply below_alloc | apply pw_below_drewN | apply below_drew1) | exact HB.out)⟩
                    · rw [if_neg c35] at H
                      exact absurd H (by simp)
                  · rw [if_neg c34] at H
                    have c34b0 : (t193 == x7_26) = false := by simpa using c34
                    (try (have c34b1 : decide (t193 = x7_26) = false := by simpa using c34))
                    (try (have c34b2 : (t193 == x7_26) = false := by simpa using c34))
                    (try (have c34b3 : ¬ (t193 = x7_26) := by simpa using c34))
                    clear c34
                    obtain rfl := Option.some.inj H
                    go_wp2_with (first | ((with_reducible refine gate_dst (N := 75) rfl ?_); (try (refine gate_guard (by rfl) ?_; dsimp only)); refine Kd.R_lit (Kd.int .u8) _ 5 ?hg (N := 75) ?hd (xs := ([a2] : List Int)) (inner := [.int .u8 a2]) (ok := fun _ => True) (okp := fun _ => True) ?hr ?hp (fun _ hk => hk) trivial (Below.refl _ _) (Nat.le_refl _) (by simp) ?_; (case hd => rfl); (case hg => rfl); (case hr => first | (go_simp; done) | (go_simp; rfl)); (case hp => exact (Reps.one (show Kd.M (Kd.int .u8) _ _ _ a2 [.int .u8 a2] from rfl) (Reps.none _ _))); intro v191 w81 ho82 hb hg_ hnew_; clear hg_ hnew_; (first | rw [← Ny190.out] at ho82 | (simp only [Int.reduceToNat] at ho82; rw [← Ny190.out] at ho82)); have n0_ := Aside0.mk (Kd.R_lower ho82 (below_size (by repeat (first | (with_reducible first | exact HB.out | apply below_alloc | apply pw_below_drewN | apply below_drew1) | exact HB.out)))); have n1_ := Aside0.mk (below_step (by repeat (first | (with_reducible first | exact HB.out | apply below_alloc | apply pw_below_drewN | apply below_drew1) | exact HB.out)) hb); clear HB; have HO192 := n0_; have HB := n1_; clear n0_ n1_; clear hb ho82; have hcv83 := own_string (P := Tryd.prog) Tryd.underlying34 Tryd.underlying5 Tryd.underlying9 (Kd.own_of_R HO192.out)) | ((with_reducible refine gate_callee (f := 13) rfl ?_); refine goesL_ (some 78) rfl rfl Tryd.func13 (by kernel_rfl) rfl #[.string (strOfNums y190)] rfl (by (try simp only [List.map_toArray, List.map_cons, List.map_nil]); first | done | rfl | (simp only [List.length_drop, List.length_take]; rfl)) ?_; (with_reducible refine (text_Name.calls kj26 (strOfNums y190) t193 _ A33.out).mono ?_); rintro e w' ⟨rfl, ⟨nd, rfl⟩⟩; refine ⟨_, rfl, ?_⟩))
                    go_ret
                    exact ⟨by first | rfl | (simp [errW_none, errW_some] <;> rfl) | (simp [*, errW_none, errW_some] <;> rfl), by repeat (first | (with_reducible first | exact HB.out | apply below_alloc | apply pw_below_drewN | apply below_drew1) | exact HB.out)⟩

/-- THE ONE PURE STATEMENT of conchlaw1_TextNames: yours. -/
def conchlaw1_TextNames.Pure : Prop := ∀ (a0 : ByteArray) (a1 : ByteArray) (a2 : Int), a0.size ≤ 140737488351232 → a1.size ≤ 140737488351232 → (Lit.int .u8 a2).wf = true → ∃ k, conchlaw1_TextNames.f k a0 a1 a2 = some true
theorem conchlaw1_TextNames.walk (P : conchlaw1_TextNames.Pure) (a0 : ByteArray) (a1 : ByteArray) (a2 : Int) (w : World) (w0 : a0.size ≤ 140737488351232) (w1 : a1.size ≤ 140737488351232) (w2 : (Lit.int .u8 a2).wf = true) (HT : Aside0 (Go.Proofs.YthdndghhdiadiaaDoor.Tab.TabP w)) :
    Calls Tryd.prog 6 #[.string a0, .string a1, .int .u8 a2] w fun e w' => e = .returned (.bool true) ∧ Below w.heap.size w w' := by
  obtain ⟨k, h⟩ := P a0 a1 a2 w0 w1 w2
  refine (conchlaw1_TextNames.calls k a0 a1 a2 true w h).mono ?_
  rintro e w' ⟨rfl, hd⟩
  exact ⟨rfl, hd⟩

end Go.Proofs.YthdndghhdiadiaaDoor.PAll
