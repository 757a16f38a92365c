-- Written by a program of this work (wip/tools/gprint.py).
import Derived.Test.YtemdfhadijdddaaPAllx0
namespace Go.Proofs.Ytemdfhadijdddaa.PAll
open Go.RowKit Go.Proofs.YtemdfhadijdddaaW.PrintWords Go.Proofs.YtemdfhadijdddaaW.PrintLast Go.Proofs.YtemdfhadijdddaaW.PrintMore
attribute [local go_sem] max2_int min2_int max_two min_two max_three min_three max_four min_four   -- for this text's walks alone
set_option linter.unusedVariables false
set_option linter.unusedSimpArgs false

/-! ### conchref1_in: function 21 -/
def conchref1_in.l0 : Nat → ByteArray → Int → Int → Option (Bool)
  | 0, _, _, _ => none
  | k + 1, x0, x1, x5 => if x5 < (x0.size : Int) then (if 0 ≤ x5 then (if (bt x0 x5) = x1 then (some true) else (conchref1_in.l0 k x0 x1 (wrap64 (x5 + 1)))) else (none)) else (some false)
def conchref1_in.f (k : Nat) (a0 : ByteArray) (a1 : Int) : Option (Bool) := conchref1_in.l0 k a0 a1 0
theorem conchref1_in.mono_l : ∀ k, (∀ y0 y1 y2, LeO (conchref1_in.l0 k y0 y1 y2) (conchref1_in.l0 (k + 1) y0 y1 y2))
  | 0 => fun _ _ _ r h => by simp [conchref1_in.l0] at h
  | k + 1 => by
    have ih0 := conchref1_in.mono_l k
    · intro y0 y1 y2
      unfold conchref1_in.l0
      repeat' first
      | (with_reducible exact ih0 _ _ _)
      | (with_reducible exact LeO.refl _)
      | (with_reducible exact LeO.none _)
      | (with_reducible refine LeO.ite ?_ ?_)
      | (with_reducible refine LeO.bind ?_ (fun _ => ?_))
      | exact ih0 _ _ _
      | exact LeO.none _
      | refine LeO.ite ?_ ?_
      | refine LeO.bind ?_ (fun _ => ?_)
theorem conchref1_in.mono : ∀ a0 a1 k, LeO (conchref1_in.f k a0 a1) (conchref1_in.f (k + 1) a0 a1) := by
  intro a0 a1 k
  have ih0 := conchref1_in.mono_l k
  unfold conchref1_in.f
  repeat' first
      | (with_reducible exact ih0 _ _ _)
      | (with_reducible exact LeO.refl _)
      | (with_reducible exact LeO.none _)
      | (with_reducible refine LeO.ite ?_ ?_)
      | (with_reducible refine LeO.bind ?_ (fun _ => ?_))
      | exact ih0 _ _ _
      | exact LeO.none _
      | refine LeO.ite ?_ ?_
      | refine LeO.bind ?_ (fun _ => ?_)
set_option maxHeartbeats 8000000 in
set_option maxRecDepth 100000 in
theorem conchref1_in.calls (k : Nat) (a0 : ByteArray) (a1 : Int) (r : Bool) (w : World) (h : conchref1_in.f k a0 a1 = some r) :
    Calls Try.prog 21 #[.string a0, .int .u8 a1] w fun e w' => e = .returned (.bool r) ∧ Drawn0 w w' := by
  have H : (conchref1_in.l0 k a0 a1 0) = some r := h
  clear h
  have H' := Aside0.mk H
  clear H
  go_enter Try.func21, Try.ntmps21
  go_wp2
  go_loopg [5] k (fun kq v5 w' => ∃ (x5_1 : Int), v5 = .int .i64 x5_1 ∧ Aside0 (conchref1_in.l0 kq a0 a1 x5_1 = some r) ∧ Aside0 (kq ≤ k) ∧ Drawn0 w w')
  case atStart => exact ⟨(0), (by first | rfl | (simp; done) | (simp [*]; done)), H', ⟨Nat.le_refl _⟩, by repeat (first | exact Drawn0.refl _ | apply Drawn0.step)⟩
  case round =>
    clear H'
    try clear c2
    try clear p2
    obtain ⟨x5_1, rfl, HA, HK1, ⟨m1, rfl⟩⟩ := hrel
    cases gk with
    | zero => exact absurd HA.out (by simp [conchref1_in.l0])
    | succ k1 =>
      have H := HA.out
      clear HA
      simp only [conchref1_in.l0] at H
      by_cases c3 : x5_1 < (a0.size : Int)
      · rw [if_pos c3] at H
        have c3b0 : decide (x5_1 < (a0.size : Int)) = true := decide_eq_true c3
        clear c3
        by_cases c4 : 0 ≤ x5_1
        · rw [if_pos c4] at H
          have c4b0 : decide (0 ≤ x5_1) = true := decide_eq_true c4
          clear c4
          by_cases c6 : (bt a0 x5_1) = a1
          · rw [if_pos c6] at H
            have c6b0 : ((bt a0 x5_1) == a1) = true := beq_iff_eq.mpr c6
            have c6b1 : ((bt a0 x5_1) != a1) = false := bne_eq_false_iff_eq.mpr c6
            clear c6
            obtain rfl := Option.some.inj H
            have p5 : 0 ≤ (x5_1 : Int) := of_decide_eq_true (by first | (with_reducible assumption) | assumption)
            have q5 : x5_1 < (a0.size : Int) := of_decide_eq_true (by first | (with_reducible assumption) | assumption)
            have hx5 := bt_at a0 x5_1
            replace p5 := eq_true p5
            replace q5 := eq_true q5
            go_wp2
            go_ret
            exact ⟨by first | rfl | (simp; done) | (simp [*]; done), by repeat (first | exact Drawn0.refl _ | apply Drawn0.step)⟩
          · rw [if_neg c6] at H
            have c6b0 : ((bt a0 x5_1) == a1) = false := beq_eq_false_iff_ne.mpr c6
            have c6b1 : ((bt a0 x5_1) != a1) = true := bne_iff_ne.mpr c6
            have H' := Aside0.mk H
            clear H
            have p5 : 0 ≤ (x5_1 : Int) := of_decide_eq_true (by first | (with_reducible assumption) | assumption)
            have q5 : x5_1 < (a0.size : Int) := of_decide_eq_true (by first | (with_reducible assumption) | assumption)
            have hx5 := bt_at a0 x5_1
            replace p5 := eq_true p5
            replace q5 := eq_true q5
            go_wp2
            go_roundg k1
            case measure => have := HK1.out; omega
            case rel => exact ⟨(wrap64 (x5_1 + 1)), (by first | rfl | (simp; done) | (simp [*]; done)), H', ⟨by have := HK1.out; omega⟩, by repeat (first | exact Drawn0.refl _ | apply Drawn0.step)⟩
        · rw [if_neg c4] at H
          exact absurd H (by simp)
      · rw [if_neg c3] at H
        have c3b0 : decide (x5_1 < (a0.size : Int)) = false := decide_eq_false c3
        clear c3
        obtain rfl := Option.some.inj H
        go_wp2
        go_ret
        exact ⟨by first | rfl | (simp; done) | (simp [*]; done), by repeat (first | exact Drawn0.refl _ | apply Drawn0.step)⟩

/-! ### conchref1_Op: function 11 -/
mutual
def conchref1_Op.j0 : Nat → ByteArray → Int → Bool → Option (ByteArray × Bool)
  | 0, _, _, _ => none
  | k + 1, x0, x1, x14 => if x14 = true then (some ((⟨#[]⟩ : ByteArray), false)) else (if 0 ≤ x1 then (if x1 ≤ (x0.size : Int) then (if (x0.extract (x1 : Int).toNat x0.size).size + 1 ≤ 9223372036854775807 then (if 0 ≤ 2 then (if 2 ≤ (((x0.extract (x1 : Int).toNat x0.size) ++ (⟨#[32]⟩ : ByteArray)).size : Int) then (if (((x0.extract (x1 : Int).toNat x0.size) ++ (⟨#[32]⟩ : ByteArray)).extract 0 2).toList = ([59, 59] : List UInt8) then (conchref1_Op.j1 k ((x0.extract (x1 : Int).toNat x0.size) ++ (⟨#[32]⟩ : ByteArray)) ((((x0.extract (x1 : Int).toNat x0.size) ++ (⟨#[32]⟩ : ByteArray)).extract 0 2).toList == ([59, 59] : List UInt8))) else (if (((x0.extract (x1 : Int).toNat x0.size) ++ (⟨#[32]⟩ : ByteArray)).extract 0 2).toList = ([38, 38] : List UInt8) then (conchref1_Op.j1 k ((x0.extract (x1 : Int).toNat x0.size) ++ (⟨#[32]⟩ : ByteArray)) ((((x0.extract (x1 : Int).toNat x0.size) ++ (⟨#[32]⟩ : ByteArray)).extract 0 2).toList == ([38, 38] : List UInt8))) else (if (((x0.extract (x1 : Int).toNat x0.size) ++ (⟨#[32]⟩ : ByteArray)).extract 0 2).toList = ([124, 124] : List UInt8) then (conchref1_Op.j1 k ((x0.extract (x1 : Int).toNat x0.size) ++ (⟨#[32]⟩ : ByteArray)) ((((x0.extract (x1 : Int).toNat x0.size) ++ (⟨#[32]⟩ : ByteArray)).extract 0 2).toList == ([124, 124] : List UInt8))) else (if (((x0.extract (x1 : Int).toNat x0.size) ++ (⟨#[32]⟩ : ByteArray)).extract 0 2).toList = ([62, 62] : List UInt8) then (conchref1_Op.j1 k ((x0.extract (x1 : Int).toNat x0.size) ++ (⟨#[32]⟩ : ByteArray)) ((((x0.extract (x1 : Int).toNat x0.size) ++ (⟨#[32]⟩ : ByteArray)).extract 0 2).toList == ([62, 62] : List UInt8))) else (if (((x0.extract (x1 : Int).toNat x0.size) ++ (⟨#[32]⟩ : ByteArray)).extract 0 2).toList = ([60, 60] : List UInt8) then (conchref1_Op.j1 k ((x0.extract (x1 : Int).toNat x0.size) ++ (⟨#[32]⟩ : ByteArray)) ((((x0.extract (x1 : Int).toNat x0.size) ++ (⟨#[32]⟩ : ByteArray)).extract 0 2).toList == ([60, 60] : List UInt8))) else (if (((x0.extract (x1 : Int).toNat x0.size) ++ (⟨#[32]⟩ : ByteArray)).extract 0 2).toList = ([60, 38] : List UInt8) then (conchref1_Op.j1 k ((x0.extract (x1 : Int).toNat x0.size) ++ (⟨#[32]⟩ : ByteArray)) ((((x0.extract (x1 : Int).toNat x0.size) ++ (⟨#[32]⟩ : ByteArray)).extract 0 2).toList == ([60, 38] : List UInt8))) else (if (((x0.extract (x1 : Int).toNat x0.size) ++ (⟨#[32]⟩ : ByteArray)).extract 0 2).toList = ([62, 38] : List UInt8) then (conchref1_Op.j1 k ((x0.extract (x1 : Int).toNat x0.size) ++ (⟨#[32]⟩ : ByteArray)) ((((x0.extract (x1 : Int).toNat x0.size) ++ (⟨#[32]⟩ : ByteArray)).extract 0 2).toList == ([62, 38] : List UInt8))) else (if (((x0.extract (x1 : Int).toNat x0.size) ++ (⟨#[32]⟩ : ByteArray)).extract 0 2).toList = ([60, 62] : List UInt8) then (conchref1_Op.j1 k ((x0.extract (x1 : Int).toNat x0.size) ++ (⟨#[32]⟩ : ByteArray)) ((((x0.extract (x1 : Int).toNat x0.size) ++ (⟨#[32]⟩ : ByteArray)).extract 0 2).toList == ([60, 62] : List UInt8))) else (conchref1_Op.j1 k ((x0.extract (x1 : Int).toNat x0.size) ++ (⟨#[32]⟩ : ByteArray)) ((((x0.extract (x1 : Int).toNat x0.size) ++ (⟨#[32]⟩ : ByteArray)).extract 0 2).toList == ([62, 124] : List UInt8))))))))))) else (none)) else (none)) else (none)) else (none)) else (none))
def conchref1_Op.j1 : Nat → ByteArray → Bool → Option (ByteArray × Bool)
  | 0, _, _ => none
  | k + 1, x6, x21 => if x21 = true then (if 0 ≤ 2 then (if 2 ≤ (x6.size : Int) then (some (x6.extract 0 2, true)) else (none)) else (none)) else (if 0 < (x6.size : Int) then ((conchref1_in.f k (⟨#[59, 124, 38, 40, 41, 60, 62, 10]⟩ : ByteArray) (bt x6 0)).bind fun t149 => (if t149 = true then (if 0 ≤ 1 then (if 1 ≤ (x6.size : Int) then (some (x6.extract 0 1, true)) else (none)) else (none)) else (some ((⟨#[]⟩ : ByteArray), false)))) else (none))
end
def conchref1_Op.f (k : Nat) (a0 : ByteArray) (a1 : Int) : Option (ByteArray × Bool) := if a1 < 0 then (conchref1_Op.j0 k a0 a1 true) else (conchref1_Op.j0 k a0 a1 (decide (a1 ≥ (a0.size : Int))))
theorem conchref1_Op.mono_l : ∀ k, (∀ y0 y1 y2, LeO (conchref1_Op.j0 k y0 y1 y2) (conchref1_Op.j0 (k + 1) y0 y1 y2)) ∧ (∀ y0 y1, LeO (conchref1_Op.j1 k y0 y1) (conchref1_Op.j1 (k + 1) y0 y1))
  | 0 => ⟨fun _ _ _ r h => by simp [conchref1_Op.j0] at h, fun _ _ r h => by simp [conchref1_Op.j1] at h⟩
  | k + 1 => by
    obtain ⟨ih0, ih1⟩ := conchref1_Op.mono_l k
    refine ⟨?_, ?_⟩
    · intro y0 y1 y2
      unfold conchref1_Op.j0
      repeat' first
      | (with_reducible exact ih0 _ _ _)
      | (with_reducible exact ih1 _ _)
      | (with_reducible exact conchref1_in.mono _ _ _)
      | (with_reducible exact LeO.refl _)
      | (with_reducible exact LeO.none _)
      | (with_reducible refine LeO.ite ?_ ?_)
      | (with_reducible refine LeO.bind ?_ (fun _ => ?_))
      | exact ih0 _ _ _
      | exact ih1 _ _
      | exact conchref1_in.mono _ _ _
      | exact LeO.none _
      | refine LeO.ite ?_ ?_
      | refine LeO.bind ?_ (fun _ => ?_)
    · intro y0 y1
      unfold conchref1_Op.j1
      repeat' first
      | (with_reducible exact ih0 _ _ _)
      | (with_reducible exact ih1 _ _)
      | (with_reducible exact conchref1_in.mono _ _ _)
      | (with_reducible exact LeO.refl _)
      | (with_reducible exact LeO.none _)
      | (with_reducible refine LeO.ite ?_ ?_)
      | (with_reducible refine LeO.bind ?_ (fun _ => ?_))
      | exact ih0 _ _ _
      | exact ih1 _ _
      | exact conchref1_in.mono _ _ _
      | exact LeO.none _
      | refine LeO.ite ?_ ?_
      | refine LeO.bind ?_ (fun _ => ?_)
theorem conchref1_Op.mono : ∀ a0 a1 k, LeO (conchref1_Op.f k a0 a1) (conchref1_Op.f (k + 1) a0 a1) := by
  intro a0 a1 k
  obtain ⟨ih0, ih1⟩ := conchref1_Op.mono_l k
  unfold conchref1_Op.f
  repeat' first
      | (with_reducible exact ih0 _ _ _)
      | (with_reducible exact ih1 _ _)
      | (with_reducible exact conchref1_in.mono _ _ _)
      | (with_reducible exact LeO.refl _)
      | (with_reducible exact LeO.none _)
      | (with_reducible refine LeO.ite ?_ ?_)
      | (with_reducible refine LeO.bind ?_ (fun _ => ?_))
      | exact ih0 _ _ _
      | exact ih1 _ _
      | exact conchref1_in.mono _ _ _
      | exact LeO.none _
      | refine LeO.ite ?_ ?_
      | refine LeO.bind ?_ (fun _ => ?_)
set_option maxHeartbeats 8000000 in
set_option maxRecDepth 100000 in
theorem conchref1_Op.calls (k : Nat) (a0 : ByteArray) (a1 : Int) (r1 : ByteArray) (r2 : Bool) (w : World) (h : conchref1_Op.f k a0 a1 = some (r1, r2)) :
    Calls Try.prog 11 #[.string a0, .int .i64 a1] w fun e w' => e = .returned (.tuple #[.string r1, .bool r2]) ∧ Drawn0 w w' := by
  have H : (if a1 < 0 then (conchref1_Op.j0 k a0 a1 true) else (conchref1_Op.j0 k a0 a1 (decide (a1 ≥ (a0.size : Int))))) = some (r1, r2) := h
  clear h
  have HC3 := Aside0.mk H
  clear H
  go_enter Try.func11, Try.ntmps11
  go_upto_region 1 with (fail)
  go_cut [14] (fun v14 wc => ∃ (kq : Nat) (x14_2 : Bool), v14 = .bool x14_2 ∧ Aside0 (conchref1_Op.j0 kq a0 a1 x14_2 = some (r1, r2)) ∧ Aside0 (kq ≤ k) ∧ Drawn0 w wc)
  case first =>
    have H := HC3.out
    clear HC3
    by_cases c4 : a1 < 0
    · rw [if_pos c4] at H
      have c4b0 : decide (a1 < 0) = true := decide_eq_true c4
      clear c4
      (first | rw [c4b0] | (simp only [i64_w, i32_w]; rw [c4b0]) | skip)
      have H' := Aside0.mk H
      clear H
      go_wp2
      go_meet
      case rel => exact ⟨_, (true), (by first | rfl | (simp; done) | (simp [*]; done)), H', ⟨by first | omega | exact Nat.le_refl _⟩, by repeat (first | exact Drawn0.refl _ | apply Drawn0.step)⟩
    · rw [if_neg c4] at H
      have c4b0 : decide (a1 < 0) = false := decide_eq_false c4
      clear c4
      (first | rw [c4b0] | (simp only [i64_w, i32_w]; rw [c4b0]) | skip)
      have H' := Aside0.mk H
      clear H
      go_wp2
      go_meet
      case rel => exact ⟨_, (decide (a1 ≥ (a0.size : Int))), (by first | rfl | (simp; done) | (simp [*]; done)), H', ⟨by first | omega | exact Nat.le_refl _⟩, by repeat (first | exact Drawn0.refl _ | apply Drawn0.step)⟩
  case rest =>
    clear HC3
    try clear c1
    try clear p2
    try clear c4
    try clear c4b0
    obtain ⟨kq, x14_2, rfl, HA, HJ2, ⟨mc2, rfl⟩⟩ := hcut
    cases kq with
    | zero => exact absurd HA.out (by simp [conchref1_Op.j0])
    | succ kj2 =>
      have H := HA.out
      clear HA
      simp only [conchref1_Op.j0] at H
      by_cases c5 : x14_2 = true
      · subst c5
        have H1 : (some ((⟨#[]⟩ : ByteArray), false)) = some (r1, r2) := by rw [if_pos rfl] at H; exact H
        clear H
        have H := H1
        clear H1
        simp only [Option.some.injEq, Prod.mk.injEq] at H
        obtain ⟨rfl, rfl⟩ := H
        go_wp2
        go_ret2
        exact ⟨by first | rfl | (simp; done) | (simp [*]; done), by repeat (first | exact Drawn0.refl _ | apply Drawn0.step)⟩
      · replace c5 := Bool.eq_false_iff.mpr c5
        subst c5
        have H1 : (if 0 ≤ a1 then (if a1 ≤ (a0.size : Int) then (if (a0.extract (a1 : Int).toNat a0.size).size + 1 ≤ 9223372036854775807 then (if 0 ≤ 2 then (if 2 ≤ (((a0.extract (a1 : Int).toNat a0.size) ++ (⟨#[32]⟩ : ByteArray)).size : Int) then (if (((a0.extract (a1 : Int).toNat a0.size) ++ (⟨#[32]⟩ : ByteArray)).extract 0 2).toList = ([59, 59] : List UInt8) then (conchref1_Op.j1 kj2 ((a0.extract (a1 : Int).toNat a0.size) ++ (⟨#[32]⟩ : ByteArray)) ((((a0.extract (a1 : Int).toNat a0.size) ++ (⟨#[32]⟩ : ByteArray)).extract 0 2).toList == ([59, 59] : List UInt8))) else (if (((a0.extract (a1 : Int).toNat a0.size) ++ (⟨#[32]⟩ : ByteArray)).extract 0 2).toList = ([38, 38] : List UInt8) then (conchref1_Op.j1 kj2 ((a0.extract (a1 : Int).toNat a0.size) ++ (⟨#[32]⟩ : ByteArray)) ((((a0.extract (a1 : Int).toNat a0.size) ++ (⟨#[32]⟩ : ByteArray)).extract 0 2).toList == ([38, 38] : List UInt8))) else (if (((a0.extract (a1 : Int).toNat a0.size) ++ (⟨#[32]⟩ : ByteArray)).extract 0 2).toList = ([124, 124] : List UInt8) then (conchref1_Op.j1 kj2 ((a0.extract (a1 : Int).toNat a0.size) ++ (⟨#[32]⟩ : ByteArray)) ((((a0.extract (a1 : Int).toNat a0.size) ++ (⟨#[32]⟩ : ByteArray)).extract 0 2).toList == ([124, 124] : List UInt8))) else (if (((a0.extract (a1 : Int).toNat a0.size) ++ (⟨#[32]⟩ : ByteArray)).extract 0 2).toList = ([62, 62] : List UInt8) then (conchref1_Op.j1 kj2 ((a0.extract (a1 : Int).toNat a0.size) ++ (⟨#[32]⟩ : ByteArray)) ((((a0.extract (a1 : Int).toNat a0.size) ++ (⟨#[32]⟩ : ByteArray)).extract 0 2).toList == ([62, 62] : List UInt8))) else (if (((a0.extract (a1 : Int).toNat a0.size) ++ (⟨#[32]⟩ : ByteArray)).extract 0 2).toList = ([60, 60] : List UInt8) then (conchref1_Op.j1 kj2 ((a0.extract (a1 : Int).toNat a0.size) ++ (⟨#[32]⟩ : ByteArray)) ((((a0.extract (a1 : Int).toNat a0.size) ++ (⟨#[32]⟩ : ByteArray)).extract 0 2).toList == ([60, 60] : List UInt8))) else (if (((a0.extract (a1 : Int).toNat a0.size) ++ (⟨#[32]⟩ : ByteArray)).extract 0 2).toList = ([60, 38] : List UInt8) then (conchref1_Op.j1 kj2 ((a0.extract (a1 : Int).toNat a0.size) ++ (⟨#[32]⟩ : ByteArray)) ((((a0.extract (a1 : Int).toNat a0.size) ++ (⟨#[32]⟩ : ByteArray)).extract 0 2).toList == ([60, 38] : List UInt8))) else (if (((a0.extract (a1 : Int).toNat a0.size) ++ (⟨#[32]⟩ : ByteArray)).extract 0 2).toList = ([62, 38] : List UInt8) then (conchref1_Op.j1 kj2 ((a0.extract (a1 : Int).toNat a0.size) ++ (⟨#[32]⟩ : ByteArray)) ((((a0.extract (a1 : Int).toNat a0.size) ++ (⟨#[32]⟩ : ByteArray)).extract 0 2).toList == ([62, 38] : List UInt8))) else (if (((a0.extract (a1 : Int).toNat a0.size) ++ (⟨#[32]⟩ : ByteArray)).extract 0 2).toList = ([60, 62] : List UInt8) then (conchref1_Op.j1 kj2 ((a0.extract (a1 : Int).toNat a0.size) ++ (⟨#[32]⟩ : ByteArray)) ((((a0.extract (a1 : Int).toNat a0.size) ++ (⟨#[32]⟩ : ByteArray)).extract 0 2).toList == ([60, 62] : List UInt8))) else (conchref1_Op.j1 kj2 ((a0.extract (a1 : Int).toNat a0.size) ++ (⟨#[32]⟩ : ByteArray)) ((((a0.extract (a1 : Int).toNat a0.size) ++ (⟨#[32]⟩ : ByteArray)).extract 0 2).toList == ([62, 124] : List UInt8))))))))))) else (none)) else (none)) else (none)) else (none)) else (none)) = some (r1, r2) := by rw [if_neg (show ¬ (false = true) by decide)] at H; exact H
        clear H
        have H := H1
        clear H1
        by_cases c6 : 0 ≤ a1
        · rw [if_pos c6] at H
          have c6b0 := eq_true c6
          have c6b1 : decide (0 ≤ a1) = true := decide_eq_true c6
          clear c6
          by_cases c7 : a1 ≤ (a0.size : Int)
          · rw [if_pos c7] at H
            have c7b0 := eq_true c7
            have c7b1 : decide (a1 ≤ (a0.size : Int)) = true := decide_eq_true c7
            clear c7
            by_cases c8 : (a0.extract (a1 : Int).toNat a0.size).size + 1 ≤ 9223372036854775807
            · rw [if_pos c8] at H
              have c8b0 := eq_true c8
              have c8b1 : decide ((a0.extract (a1 : Int).toNat a0.size).size + 1 ≤ 9223372036854775807) = true := decide_eq_true c8
              try have c8b2 : (9223372036854775807 < (a0.extract (a1 : Int).toNat a0.size).size + 1) = False := eq_false (Nat.not_lt.2 c8)
              try have c8b9 : (9223372036854775807 < a0.size - (a1 : Int).toNat + 1) = False := eq_false (by have h_ := c8; simp only [ByteArray.size_append, ByteArray.size_extract, Nat.min_self] at h_; first | omega | (simp at h_; omega))
              by_cases c9 : 0 ≤ 2
              · rw [if_pos c9] at H
                have c9b0 := eq_true c9
                have c9b1 : decide (0 ≤ 2) = true := decide_eq_true c9
                clear c9
                by_cases c10 : 2 ≤ (((a0.extract (a1 : Int).toNat a0.size) ++ (⟨#[32]⟩ : ByteArray)).size : Int)
                · rw [if_pos c10] at H
                  have c10b0 := eq_true c10
                  have c10b1 : decide (2 ≤ (((a0.extract (a1 : Int).toNat a0.size) ++ (⟨#[32]⟩ : ByteArray)).size : Int)) = true := decide_eq_true c10
                  have HC11 := Aside0.mk H
                  clear H
                  go_upto_if 21 with (fail)
                  go_cut [21] (fun v21 wc => ∃ (kq : Nat) (x21_10 : Bool), v21 = .bool x21_10 ∧ Aside0 (conchref1_Op.j1 kq ((a0.extract (a1 : Int).toNat a0.size) ++ (⟨#[32]⟩ : ByteArray)) x21_10 = some (r1, r2)) ∧ Aside0 (kq ≤ kj2) ∧ Drawn0 w wc)
                  case first =>
                    have H := HC11.out
                    clear HC11
                    by_cases c12 : (((a0.extract (a1 : Int).toNat a0.size) ++ (⟨#[32]⟩ : ByteArray)).extract 0 2).toList = ([59, 59] : List UInt8)
                    · rw [if_pos c12] at H
                      have c12b0 : ((((a0.extract (a1 : Int).toNat a0.size) ++ (⟨#[32]⟩ : ByteArray)).extract 0 2).toList == ([59, 59] : List UInt8)) = true := beq_iff_eq.mpr c12
                      have c12b1 : ((((a0.extract (a1 : Int).toNat a0.size) ++ (⟨#[32]⟩ : ByteArray)).extract 0 2).toList != ([59, 59] : List UInt8)) = false := bne_eq_false_iff_eq.mpr c12
                      clear c12
                      (first | rw [c12b0] | (simp only [i64_w, i32_w]; rw [c12b0]) | skip)
                      have H' := Aside0.mk H
                      clear H
                      go_wp2
                      go_meet
                      case rel => exact ⟨_, (((((a0.extract (a1 : Int).toNat a0.size) ++ (⟨#[32]⟩ : ByteArray)).extract 0 2).toList == ([59, 59] : List UInt8))), (by first | rfl | (simp; done) | (simp [*]; done)), H', ⟨by have := HJ2.out; first | omega | exact Nat.le_refl _⟩, by repeat (first | exact Drawn0.refl _ | apply Drawn0.step)⟩
                    · rw [if_neg c12] at H
                      have c12b0 : ((((a0.extract (a1 : Int).toNat a0.size) ++ (⟨#[32]⟩ : ByteArray)).extract 0 2).toList == ([59, 59] : List UInt8)) = false := beq_eq_false_iff_ne.mpr c12
                      have c12b1 : ((((a0.extract (a1 : Int).toNat a0.size) ++ (⟨#[32]⟩ : ByteArray)).extract 0 2).toList != ([59, 59] : List UInt8)) = true := bne_iff_ne.mpr c12
                      (first | rw [c12b0] | (simp only [i64_w, i32_w]; rw [c12b0]) | skip)
                      by_cases c13 : (((a0.extract (a1 : Int).toNat a0.size) ++ (⟨#[32]⟩ : ByteArray)).extract 0 2).toList = ([38, 38] : List UInt8)
                      · rw [if_pos c13] at H
                        have c13b0 : ((((a0.extract (a1 : Int).toNat a0.size) ++ (⟨#[32]⟩ : ByteArray)).extract 0 2).toList == ([38, 38] : List UInt8)) = true := beq_iff_eq.mpr c13
                        have c13b1 : ((((a0.extract (a1 : Int).toNat a0.size) ++ (⟨#[32]⟩ : ByteArray)).extract 0 2).toList != ([38, 38] : List UInt8)) = false := bne_eq_false_iff_eq.mpr c13
                        clear c13
                        have H' := Aside0.mk H
                        clear H
                        go_wp2
                        go_meet
                        case rel => exact ⟨_, (((((a0.extract (a1 : Int).toNat a0.size) ++ (⟨#[32]⟩ : ByteArray)).extract 0 2).toList == ([38, 38] : List UInt8))), (by first | rfl | (simp; done) | (simp [*]; done)), H', ⟨by have := HJ2.out; first | omega | exact Nat.le_refl _⟩, by repeat (first | exact Drawn0.refl _ | apply Drawn0.step)⟩
                      · rw [if_neg c13] at H
                        have c13b0 : ((((a0.extract (a1 : Int).toNat a0.size) ++ (⟨#[32]⟩ : ByteArray)).extract 0 2).toList == ([38, 38] : List UInt8)) = false := beq_eq_false_iff_ne.mpr c13
                        have c13b1 : ((((a0.extract (a1 : Int).toNat a0.size) ++ (⟨#[32]⟩ : ByteArray)).extract 0 2).toList != ([38, 38] : List UInt8)) = true := bne_iff_ne.mpr c13
                        by_cases c14 : (((a0.extract (a1 : Int).toNat a0.size) ++ (⟨#[32]⟩ : ByteArray)).extract 0 2).toList = ([124, 124] : List UInt8)
                        · rw [if_pos c14] at H
                          have c14b0 : ((((a0.extract (a1 : Int).toNat a0.size) ++ (⟨#[32]⟩ : ByteArray)).extract 0 2).toList == ([124, 124] : List UInt8)) = true := beq_iff_eq.mpr c14
                          have c14b1 : ((((a0.extract (a1 : Int).toNat a0.size) ++ (⟨#[32]⟩ : ByteArray)).extract 0 2).toList != ([124, 124] : List UInt8)) = false := bne_eq_false_iff_eq.mpr c14
                          clear c14
                          have H' := Aside0.mk H
                          clear H
                          go_wp2
                          go_meet
                          case rel => exact ⟨_, (((((a0.extract (a1 : Int).toNat a0.size) ++ (⟨#[32]⟩ : ByteArray)).extract 0 2).toList == ([124, 124] : List UInt8))), (by first | rfl | (simp; done) | (simp [*]; done)), H', ⟨by have := HJ2.out; first | omega | exact Nat.le_refl _⟩, by repeat (first | exact Drawn0.refl _ | apply Drawn0.step)⟩
                        · rw [if_neg c14] at H
                          have c14b0 : ((((a0.extract (a1 : Int).toNat a0.size) ++ (⟨#[32]⟩ : ByteArray)).extract 0 2).toList == ([124, 124] : List UInt8)) = false := beq_eq_false_iff_ne.mpr c14
                          have c14b1 : ((((a0.extract (a1 : Int).toNat a0.size) ++ (⟨#[32]⟩ : ByteArray)).extract 0 2).toList != ([124, 124] : List UInt8)) = true := bne_iff_ne.mpr c14
                          by_cases c15 : (((a0.extract (a1 : Int).toNat a0.size) ++ (⟨#[32]⟩ : ByteArray)).extract 0 2).toList = ([62, 62] : List UInt8)
                          · rw [if_pos c15] at H
                            have c15b0 : ((((a0.extract (a1 : Int).toNat a0.size) ++ (⟨#[32]⟩ : ByteArray)).extract 0 2).toList == ([62, 62] : List UInt8)) = true := beq_iff_eq.mpr c15
                            have c15b1 : ((((a0.extract (a1 : Int).toNat a0.size) ++ (⟨#[32]⟩ : ByteArray)).extract 0 2).toList != ([62, 62] : List UInt8)) = false := bne_eq_false_iff_eq.mpr c15
                            clear c15
                            have H' := Aside0.mk H
                            clear H
                            go_wp2
                            go_meet
                            case rel => exact ⟨_, (((((a0.extract (a1 : Int).toNat a0.size) ++ (⟨#[32]⟩ : ByteArray)).extract 0 2).toList == ([62, 62] : List UInt8))), (by first | rfl | (simp; done) | (simp [*]; done)), H', ⟨by have := HJ2.out; first | omega | exact Nat.le_refl _⟩, by repeat (first | exact Drawn0.refl _ | apply Drawn0.step)⟩
                          · rw [if_neg c15] at H
                            have c15b0 : ((((a0.extract (a1 : Int).toNat a0.size) ++ (⟨#[32]⟩ : ByteArray)).extract 0 2).toList == ([62, 62] : List UInt8)) = false := beq_eq_false_iff_ne.mpr c15
                            have c15b1 : ((((a0.extract (a1 : Int).toNat a0.size) ++ (⟨#[32]⟩ : ByteArray)).extract 0 2).toList != ([62, 62] : List UInt8)) = true := bne_iff_ne.mpr c15
                            by_cases c16 : (((a0.extract (a1 : Int).toNat a0.size) ++ (⟨#[32]⟩ : ByteArray)).extract 0 2).toList = ([60, 60] : List UInt8)
                            · rw [if_pos c16] at H
                              have c16b0 : ((((a0.extract (a1 : Int).toNat a0.size) ++ (⟨#[32]⟩ : ByteArray)).extract 0 2).toList == ([60, 60] : List UInt8)) = true := beq_iff_eq.mpr c16
                              have c16b1 : ((((a0.extract (a1 : Int).toNat a0.size) ++ (⟨#[32]⟩ : ByteArray)).extract 0 2).toList != ([60, 60] : List UInt8)) = false := bne_eq_false_iff_eq.mpr c16
                              clear c16
                              have H' := Aside0.mk H
                              clear H
                              go_wp2
                              go_meet
                              case rel => exact ⟨_, (((((a0.extract (a1 : Int).toNat a0.size) ++ (⟨#[32]⟩ : ByteArray)).extract 0 2).toList == ([60, 60] : List UInt8))), (by first | rfl | (simp; done) | (simp [*]; done)), H', ⟨by have := HJ2.out; first | omega | exact Nat.le_refl _⟩, by repeat (first | exact Drawn0.refl _ | apply Drawn0.step)⟩
                            · rw [if_neg c16] at H
                              have c16b0 : ((((a0.extract (a1 : Int).toNat a0.size) ++ (⟨#[32]⟩ : ByteArray)).extract 0 2).toList == ([60, 60] : List UInt8)) = false := beq_eq_false_iff_ne.mpr c16
                              have c16b1 : ((((a0.extract (a1 : Int).toNat a0.size) ++ (⟨#[32]⟩ : ByteArray)).extract 0 2).toList != ([60, 60] : List UInt8)) = true := bne_iff_ne.mpr c16
                              by_cases c17 : (((a0.extract (a1 : Int).toNat a0.size) ++ (⟨#[32]⟩ : ByteArray)).extract 0 2).toList = ([60, 38] : List UInt8)
                              · rw [if_pos c17] at H
                                have c17b0 : ((((a0.extract (a1 : Int).toNat a0.size) ++ (⟨#[32]⟩ : ByteArray)).extract 0 2).toList == ([60, 38] : List UInt8)) = true := beq_iff_eq.mpr c17
                                have c17b1 : ((((a0.extract (a1 : Int).toNat a0.size) ++ (⟨#[32]⟩ : ByteArray)).extract 0 2).toList != ([60, 38] : List UInt8)) = false := bne_eq_false_iff_eq.mpr c17
                                clear c17
                                have H' := Aside0.mk H
                                clear H
                                go_wp2
                                go_meet
                                case rel => exact ⟨_, (((((a0.extract (a1 : Int).toNat a0.size) ++ (⟨#[32]⟩ : ByteArray)).extract 0 2).toList == ([60, 38] : List UInt8))), (by first | rfl | (simp; done) | (simp [*]; done)), H', ⟨by have := HJ2.out; first | omega | exact Nat.le_refl _⟩, by repeat (first | exact Drawn0.refl _ | apply Drawn0.step)⟩
                              · rw [if_neg c17] at H
                                have c17b0 : ((((a0.extract (a1 : Int).toNat a0.size) ++ (⟨#[32]⟩ : ByteArray)).extract 0 2).toList == ([60, 38] : List UInt8)) = false := beq_eq_false_iff_ne.mpr c17
                                have c17b1 : ((((a0.extract (a1 : Int).toNat a0.size) ++ (⟨#[32]⟩ : ByteArray)).extract 0 2).toList != ([60, 38] : List UInt8)) = true := bne_iff_ne.mpr c17
                                by_cases c18 : (((a0.extract (a1 : Int).toNat a0.size) ++ (⟨#[32]⟩ : ByteArray)).extract 0 2).toList = ([62, 38] : List UInt8)
                                · rw [if_pos c18] at H
                                  have c18b0 : ((((a0.extract (a1 : Int).toNat a0.size) ++ (⟨#[32]⟩ : ByteArray)).extract 0 2).toList == ([62, 38] : List UInt8)) = true := beq_iff_eq.mpr c18
                                  have c18b1 : ((((a0.extract (a1 : Int).toNat a0.size) ++ (⟨#[32]⟩ : ByteArray)).extract 0 2).toList != ([62, 38] : List UInt8)) = false := bne_eq_false_iff_eq.mpr c18
                                  clear c18
                                  have H' := Aside0.mk H
                                  clear H
                                  go_wp2
                                  go_meet
                                  case rel => exact ⟨_, (((((a0.extract (a1 : Int).toNat a0.size) ++ (⟨#[32]⟩ : ByteArray)).extract 0 2).toList == ([62, 38] : List UInt8))), (by first | rfl | (simp; done) | (simp [*]; done)), H', ⟨by have := HJ2.out; first | omega | exact Nat.le_refl _⟩, by repeat (first | exact Drawn0.refl _ | apply Drawn0.step)⟩
                                · rw [if_neg c18] at H
                                  have c18b0 : ((((a0.extract (a1 : Int).toNat a0.size) ++ (⟨#[32]⟩ : ByteArray)).extract 0 2).toList == ([62, 38] : List UInt8)) = false := beq_eq_false_iff_ne.mpr c18
                                  have c18b1 : ((((a0.extract (a1 : Int).toNat a0.size) ++ (⟨#[32]⟩ : ByteArray)).extract 0 2).toList != ([62, 38] : List UInt8)) = true := bne_iff_ne.mpr c18
                                  by_cases c19 : (((a0.extract (a1 : Int).toNat a0.size) ++ (⟨#[32]⟩ : ByteArray)).extract 0 2).toList = ([60, 62] : List UInt8)
                                  · rw [if_pos c19] at H
                                    have c19b0 : ((((a0.extract (a1 : Int).toNat a0.size) ++ (⟨#[32]⟩ : ByteArray)).extract 0 2).toList == ([60, 62] : List UInt8)) = true := beq_iff_eq.mpr c19
                                    have c19b1 : ((((a0.extract (a1 : Int).toNat a0.size) ++ (⟨#[32]⟩ : ByteArray)).extract 0 2).toList != ([60, 62] : List UInt8)) = false := bne_eq_false_iff_eq.mpr c19
                                    clear c19
                                    have H' := Aside0.mk H
                                    clear H
                                    go_wp2
                                    go_meet
                                    case rel => exact ⟨_, (((((a0.extract (a1 : Int).toNat a0.size) ++ (⟨#[32]⟩ : ByteArray)).extract 0 2).toList == ([60, 62] : List UInt8))), (by first | rfl | (simp; done) | (simp [*]; done)), H', ⟨by have := HJ2.out; first | omega | exact Nat.le_refl _⟩, by repeat (first | exact Drawn0.refl _ | apply Drawn0.step)⟩
                                  · rw [if_neg c19] at H
                                    have c19b0 : ((((a0.extract (a1 : Int).toNat a0.size) ++ (⟨#[32]⟩ : ByteArray)).extract 0 2).toList == ([60, 62] : List UInt8)) = false := beq_eq_false_iff_ne.mpr c19
                                    have c19b1 : ((((a0.extract (a1 : Int).toNat a0.size) ++ (⟨#[32]⟩ : ByteArray)).extract 0 2).toList != ([60, 62] : List UInt8)) = true := bne_iff_ne.mpr c19
                                    have H' := Aside0.mk H
                                    clear H
                                    go_wp2
                                    go_meet
                                    case rel => exact ⟨_, (((((a0.extract (a1 : Int).toNat a0.size) ++ (⟨#[32]⟩ : ByteArray)).extract 0 2).toList == ([62, 124] : List UInt8))), (by first | rfl | (simp; done) | (simp [*]; done)), H', ⟨by have := HJ2.out; first | omega | exact Nat.le_refl _⟩, by repeat (first | exact Drawn0.refl _ | apply Drawn0.step)⟩
                  case rest =>
                    clear HC11
                    try clear c1
                    try clear c2
                    try clear p2
                    try clear c4
                    try clear c4b0
                    try clear c5
                    try clear c6
                    try clear c6b0
                    try clear c6b1
                    try clear c7
                    try clear c7b0
                    try clear c7b1
                    try clear c8
                    try clear c8b0
                    try clear c8b1
                    try clear c8b2
                    try clear c9
                    try clear c9b0
                    try clear c9b1
                    try clear c10
                    try clear c10b0
                    try clear c10b1
                    try clear c11
                    try clear c12
                    try clear c12b0
                    try clear c12b1
                    try clear c13
                    try clear c13b0
                    try clear c13b1
                    try clear c14
                    try clear c14b0
                    try clear c14b1
                    try clear c15
                    try clear c15b0
                    try clear c15b1
                    try clear c16
                    try clear c16b0
                    try clear c16b1
                    try clear c17
                    try clear c17b0
                    try clear c17b1
                    try clear c18
                    try clear c18b0
                    try clear c18b1
                    try clear c19
                    try clear c19b0
                    try clear c19b1
                    try clear p2
                    obtain ⟨kq, x21_10, rfl, HA, HJ10, ⟨mc10, rfl⟩⟩ := hcut
                    cases kq with
                    | zero => exact absurd HA.out (by simp [conchref1_Op.j1])
                    | succ kj10 =>
                      have H := HA.out
                      clear HA
                      simp only [conchref1_Op.j1] at H
                      by_cases c20 : x21_10 = true
                      · subst c20
                        have H1 : (if 0 ≤ 2 then (if 2 ≤ (((a0.extract (a1 : Int).toNat a0.size) ++ (⟨#[32]⟩ : ByteArray)).size : Int) then (some (((a0.extract (a1 : Int).toNat a0.size) ++ (⟨#[32]⟩ : ByteArray)).extract 0 2, true)) else (none)) else (none)) = some (r1, r2) := by rw [if_pos rfl] at H; exact H
                        clear H
                        have H := H1
                        clear H1
                        by_cases c21 : 0 ≤ 2
                        · rw [if_pos c21] at H
                          have c21b0 := eq_true c21
                          have c21b1 : decide (0 ≤ 2) = true := decide_eq_true c21
                          clear c21
                          by_cases c22 : 2 ≤ (((a0.extract (a1 : Int).toNat a0.size) ++ (⟨#[32]⟩ : ByteArray)).size : Int)
                          · rw [if_pos c22] at H
                            have c22b0 := eq_true c22
                            have c22b1 : decide (2 ≤ (((a0.extract (a1 : Int).toNat a0.size) ++ (⟨#[32]⟩ : ByteArray)).size : Int)) = true := decide_eq_true c22
                            simp only [Option.some.injEq, Prod.mk.injEq] at H
                            obtain ⟨rfl, rfl⟩ := H
                            go_wp2
                            go_ret2
                            exact ⟨by first | rfl | (simp; done) | (simp [*]; done), by repeat (first | exact Drawn0.refl _ | apply Drawn0.step)⟩
                          · rw [if_neg c22] at H
                            exact absurd H (by simp)
                        · rw [if_neg c21] at H
                          exact absurd H (by simp)
                      · replace c20 := Bool.eq_false_iff.mpr c20
                        subst c20
                        have H1 : (if 0 < (((a0.extract (a1 : Int).toNat a0.size) ++ (⟨#[32]⟩ : ByteArray)).size : Int) then ((conchref1_in.f kj10 (⟨#[59, 124, 38, 40, 41, 60, 62, 10]⟩ : ByteArray) (bt ((a0.extract (a1 : Int).toNat a0.size) ++ (⟨#[32]⟩ : ByteArray)) 0)).bind fun t149 => (if t149 = true then (if 0 ≤ 1 then (if 1 ≤ (((a0.extract (a1 : Int).toNat a0.size) ++ (⟨#[32]⟩ : ByteArray)).size : Int) then (some (((a0.extract (a1 : Int).toNat a0.size) ++ (⟨#[32]⟩ : ByteArray)).extract 0 1, true)) else (none)) else (none)) else (some ((⟨#[]⟩ : ByteArray), false)))) else (none)) = some (r1, r2) := by rw [if_neg (show ¬ (false = true) by decide)] at H; exact H
                        clear H
                        have H := H1
                        clear H1
                        by_cases c23 : 0 < (((a0.extract (a1 : Int).toNat a0.size) ++ (⟨#[32]⟩ : ByteArray)).size : Int)
                        · rw [if_pos c23] at H
                          have c23b0 : decide (0 < (((a0.extract (a1 : Int).toNat a0.size) ++ (⟨#[32]⟩ : ByteArray)).size : Int)) = true := decide_eq_true c23
                          have c23b1 : decide (0 < ((a0.extract (a1 : Int).toNat a0.size) ++ (⟨#[32]⟩ : ByteArray)).size) = true := decide_eq_true (by omega)
                          clear c23
                          replace H := Option.bind_eq_some_iff.mp H
                          obtain ⟨t149, A250, H⟩ := H
                          replace H : (if t149 = true then (if 0 ≤ 1 then (if 1 ≤ (((a0.extract (a1 : Int).toNat a0.size) ++ (⟨#[32]⟩ : ByteArray)).size : Int) then (some (((a0.extract (a1 : Int).toNat a0.size) ++ (⟨#[32]⟩ : ByteArray)).extract 0 1, true)) else (none)) else (none)) else (some ((⟨#[]⟩ : ByteArray), false))) = some (r1, r2) := H
                          have A25 := Aside0.mk A250
                          clear A250
                          by_cases c26 : t149 = true
                          · subst c26
                            have H1 : (if 0 ≤ 1 then (if 1 ≤ (((a0.extract (a1 : Int).toNat a0.size) ++ (⟨#[32]⟩ : ByteArray)).size : Int) then (some (((a0.extract (a1 : Int).toNat a0.size) ++ (⟨#[32]⟩ : ByteArray)).extract 0 1, true)) else (none)) else (none)) = some (r1, r2) := by rw [if_pos rfl] at H; exact H
                            clear H
                            have H := H1
                            clear H1
                            by_cases c27 : 0 ≤ 1
                            · rw [if_pos c27] at H
                              have c27b0 := eq_true c27
                              have c27b1 : decide (0 ≤ 1) = true := decide_eq_true c27
                              clear c27
                              by_cases c28 : 1 ≤ (((a0.extract (a1 : Int).toNat a0.size) ++ (⟨#[32]⟩ : ByteArray)).size : Int)
                              · rw [if_pos c28] at H
                                have c28b0 := eq_true c28
                                have c28b1 : decide (1 ≤ (((a0.extract (a1 : Int).toNat a0.size) ++ (⟨#[32]⟩ : ByteArray)).size : Int)) = true := decide_eq_true c28
                                simp only [Option.some.injEq, Prod.mk.injEq] at H
                                obtain ⟨rfl, rfl⟩ := H
                                have p24 : 0 ≤ (0 : Int) := (by omega)
                                have q24 : 0 < ((a0.extract (a1 : Int).toNat a0.size) ++ (⟨#[32]⟩ : ByteArray)).size := (by have : (0 : Int) < (((a0.extract (a1 : Int).toNat a0.size) ++ (⟨#[32]⟩ : ByteArray)).size : Int) := of_decide_eq_true (by first | (with_reducible assumption) | assumption); omega)
                                have hx24 : ∀ h : 0 < ((a0.extract (a1 : Int).toNat a0.size) ++ (⟨#[32]⟩ : ByteArray)).size, ((((a0.extract (a1 : Int).toNat a0.size) ++ (⟨#[32]⟩ : ByteArray))[0]'h).toNat : Int) = bt ((a0.extract (a1 : Int).toNat a0.size) ++ (⟨#[32]⟩ : ByteArray)) 0 := bt_at ((a0.extract (a1 : Int).toNat a0.size) ++ (⟨#[32]⟩ : ByteArray)) 0
                                clear p24
                                have qi24 : (0 < (((a0.extract (a1 : Int).toNat a0.size) ++ (⟨#[32]⟩ : ByteArray)).size : Int)) = True := eq_true (of_decide_eq_true (by first | (with_reducible assumption) | assumption))
                                replace q24 := eq_true q24
                                go_wp2_with (first | ((with_reducible refine gate_callee (f := 21) rfl ?_); refine goesL_ (some 35) rfl rfl Try.func21 (by kernel_rfl) rfl #[.string (⟨#[59, 124, 38, 40, 41, 60, 62, 10]⟩ : ByteArray), .int .u8 (bt ((a0.extract (a1 : Int).toNat a0.size) ++ (⟨#[32]⟩ : ByteArray)) 0)] rfl (by (try simp only [List.map_toArray, List.map_cons, List.map_nil]); first | done | rfl | (simp only [List.length_drop, List.length_take]; rfl)) ?_; (with_reducible refine (conchref1_in.calls kj10 (⟨#[59, 124, 38, 40, 41, 60, 62, 10]⟩ : ByteArray) (bt ((a0.extract (a1 : Int).toNat a0.size) ++ (⟨#[32]⟩ : ByteArray)) 0) true _ A25.out).mono ?_); rintro e w' ⟨rfl, ⟨nd, rfl⟩⟩; refine ⟨_, rfl, ?_⟩))
                                go_ret2
                                exact ⟨by first | rfl | (simp; done) | (simp [*]; done), by repeat (first | exact Drawn0.refl _ | apply Drawn0.step)⟩
                              · rw [if_neg c28] at H
                                exact absurd H (by simp)
                            · rw [if_neg c27] at H
                              exact absurd H (by simp)
                          · replace c26 := Bool.eq_false_iff.mpr c26
                            subst c26
                            have H1 : (some ((⟨#[]⟩ : ByteArray), false)) = some (r1, r2) := by rw [if_neg (show ¬ (false = true) by decide)] at H; exact H
                            clear H
                            have H := H1
                            clear H1
                            simp only [Option.some.injEq, Prod.mk.injEq] at H
                            obtain ⟨rfl, rfl⟩ := H
                            have p24 : 0 ≤ (0 : Int) := (by omega)
                            have q24 : 0 < ((a0.extract (a1 : Int).toNat a0.size) ++ (⟨#[32]⟩ : ByteArray)).size := (by have : (0 : Int) < (((a0.extract (a1 : Int).toNat a0.size) ++ (⟨#[32]⟩ : ByteArray)).size : Int) := of_decide_eq_true (by first | (with_reducible assumption) | assumption); omega)
                            have hx24 : ∀ h : 0 < ((a0.extract (a1 : Int).toNat a0.size) ++ (⟨#[32]⟩ : ByteArray)).size, ((((a0.extract (a1 : Int).toNat a0.size) ++ (⟨#[32]⟩ : ByteArray))[0]'h).toNat : Int) = bt ((a0.extract (a1 : Int).toNat a0.size) ++ (⟨#[32]⟩ : ByteArray)) 0 := bt_at ((a0.extract (a1 : Int).toNat a0.size) ++ (⟨#[32]⟩ : ByteArray)) 0
                            clear p24
                            have qi24 : (0 < (((a0.extract (a1 : Int).toNat a0.size) ++ (⟨#[32]⟩ : ByteArray)).size : Int)) = True := eq_true (of_decide_eq_true (by first | (with_reducible assumption) | assumption))
                            replace q24 := eq_true q24
                            go_wp2_with (first | ((with_reducible refine gate_callee (f := 21) rfl ?_); refine goesL_ (some 35) rfl rfl Try.func21 (by kernel_rfl) rfl #[.string (⟨#[59, 124, 38, 40, 41, 60, 62, 10]⟩ : ByteArray), .int .u8 (bt ((a0.extract (a1 : Int).toNat a0.size) ++ (⟨#[32]⟩ : ByteArray)) 0)] rfl (by (try simp only [List.map_toArray, List.map_cons, List.map_nil]); first | done | rfl | (simp only [List.length_drop, List.length_take]; rfl)) ?_; (with_reducible refine (conchref1_in.calls kj10 (⟨#[59, 124, 38, 40, 41, 60, 62, 10]⟩ : ByteArray) (bt ((a0.extract (a1 : Int).toNat a0.size) ++ (⟨#[32]⟩ : ByteArray)) 0) false _ A25.out).mono ?_); rintro e w' ⟨rfl, ⟨nd, rfl⟩⟩; refine ⟨_, rfl, ?_⟩))
                            go_ret2
                            exact ⟨by first | rfl | (simp; done) | (simp [*]; done), by repeat (first | exact Drawn0.refl _ | apply Drawn0.step)⟩
                        · rw [if_neg c23] at H
                          exact absurd H (by simp)
                · rw [if_neg c10] at H
                  exact absurd H (by simp)
              · rw [if_neg c9] at H
                exact absurd H (by simp)
            · rw [if_neg c8] at H
              exact absurd H (by simp)
          · rw [if_neg c7] at H
            exact absurd H (by simp)
        · rw [if_neg c6] at H
          exact absurd H (by simp)

end Go.Proofs.Ytemdfhadijdddaa.PAll
