-- Written by a program of this work (wip/tools/gprint.py).
import Derived.Test.YtlebdbbngliiaaaPAllx0
import Derived.Test.YtlebdbbngliiaaaPAllx1
namespace Go.Proofs.Ytlebdbbngliiaaa.PAll
open Go.RowKit Go.Proofs.YtlebdbbngliiaaaW.PrintWords Go.Proofs.YtlebdbbngliiaaaW.PrintLast Go.Proofs.YtlebdbbngliiaaaW.PrintMore
attribute [local go_sem] max2_int min2_int max_two min_two max_three min_three max_four min_four   -- for this text's walks alone
set_option linter.unusedVariables false
set_option linter.unusedSimpArgs false

/-! ### conchref1_Place: function 9 -/
def conchref1_Place.l0 : Nat → ByteArray → Int → Int → Int → Int → Option (Int × Int)
  | 0, _, _, _, _, _ => none
  | k + 1, x0, x1, x6, x7, x8 => if x8 < x1 then (if 0 ≤ x8 then (if x8 < (x0.size : Int) then (if (bt x0 x8) = 10 then (conchref1_Place.l0 k x0 x1 (wrap64 (x6 + 1)) 1 (wrap64 (x8 + 1))) else (conchref1_Place.l0 k x0 x1 x6 (wrap64 (x7 + 1)) (wrap64 (x8 + 1)))) else (none)) else (none)) else (some (x6, x7))
def conchref1_Place.f (k : Nat) (a0 : ByteArray) (a1 : Int) : Option (Int × Int) := conchref1_Place.l0 k a0 (mn (mx a1 0) (a0.size : Int)) 1 1 0
theorem conchref1_Place.mono_l : ∀ k, (∀ y0 y1 y2 y3 y4, LeO (conchref1_Place.l0 k y0 y1 y2 y3 y4) (conchref1_Place.l0 (k + 1) y0 y1 y2 y3 y4))
  | 0 => fun _ _ _ _ _ r h => by simp [conchref1_Place.l0] at h
  | k + 1 => by
    have ih0 := conchref1_Place.mono_l k
    · intro y0 y1 y2 y3 y4
      unfold conchref1_Place.l0
      repeat' first
      | (with_reducible exact ih0 _ _ _ _ _)
      | (with_reducible exact LeO.refl _)
      | (with_reducible exact LeO.none _)
      | (with_reducible refine LeO.ite ?_ ?_)
      | (with_reducible refine LeO.bind ?_ (fun _ => ?_))
      | exact ih0 _ _ _ _ _
      | exact LeO.none _
      | refine LeO.ite ?_ ?_
      | refine LeO.bind ?_ (fun _ => ?_)
theorem conchref1_Place.mono : ∀ a0 a1 k, LeO (conchref1_Place.f k a0 a1) (conchref1_Place.f (k + 1) a0 a1) := by
  intro a0 a1 k
  have ih0 := conchref1_Place.mono_l k
  unfold conchref1_Place.f
  repeat' first
      | (with_reducible exact ih0 _ _ _ _ _)
      | (with_reducible exact LeO.refl _)
      | (with_reducible exact LeO.none _)
      | (with_reducible refine LeO.ite ?_ ?_)
      | (with_reducible refine LeO.bind ?_ (fun _ => ?_))
      | exact ih0 _ _ _ _ _
      | exact LeO.none _
      | refine LeO.ite ?_ ?_
      | refine LeO.bind ?_ (fun _ => ?_)
set_option maxHeartbeats 8000000 in
set_option maxRecDepth 100000 in
theorem conchref1_Place.calls (k : Nat) (a0 : ByteArray) (a1 : Int) (r1 : Int) (r2 : Int) (w : World) (h : conchref1_Place.f k a0 a1 = some (r1, r2)) :
    Calls Try.prog 9 #[.string a0, .int .i64 a1] w fun e w' => e = .returned (.tuple #[.int .i64 r1, .int .i64 r2]) ∧ Below w.heap.size w w' := by
  have HB := Aside0.mk (Below.refl w.heap.size w)
  have H : (conchref1_Place.l0 k a0 (mn (mx a1 0) (a0.size : Int)) 1 1 0) = some (r1, r2) := h
  clear h
  obtain ⟨ji3, hji3⟩ : ∃ j_ : Int, (mx a1 0) = j_ := ⟨_, rfl⟩
  replace H : (conchref1_Place.l0 k a0 (mn (ji3) (a0.size : Int)) 1 1 0) = some (r1, r2) := by first | (rw [hji3] at H; exact H) | (simp only [hji3] at H ⊢; exact H)
  (try (have hji3l : 0 ≤ ji3 := by (rw [← hji3]; unfold mx; (repeat' split) <;> omega)))
  (try (have hji3m : 0 ≤ ji3 := by omega))
  have hji3_ : (if a1 < 0 then 0 else a1) = ji3 := hji3
  obtain ⟨ji4, hji4⟩ : ∃ j_ : Int, (mn (ji3) (a0.size : Int)) = j_ := ⟨_, rfl⟩
  replace H : (conchref1_Place.l0 k a0 ji4 1 1 0) = some (r1, r2) := by first | (rw [hji4] at H; exact H) | (simp only [hji4] at H ⊢; exact H)
  have hji4_ : (if (a0.size : Int) < (ji3) then (a0.size : Int) else (ji3)) = ji4 := hji4
  have H' := Aside0.mk H
  clear H
  go_enter Try.func9, Try.ntmps9
  go_wp2
  go_loopg [6, 7, 8] k (fun kq v6 v7 v8 w' => ∃ (x6_1 : Int) (x7_1 : Int) (x8_1 : Int), v6 = .int .i64 x6_1 ∧ v7 = .int .i64 x7_1 ∧ v8 = .int .i64 x8_1 ∧ Aside0 (conchref1_Place.l0 kq a0 ji4 x6_1 x7_1 x8_1 = some (r1, r2)) ∧ Aside0 (kq ≤ k) ∧ Aside0 (Below w.heap.size w w'))
  case atStart => exact ⟨(1), (1), (0), (by first | rfl | (simp; done) | (simp [*]; done)), (by first | rfl | (simp; done) | (simp [*]; done)), (by first | rfl | (simp; done) | (simp [*]; done)), H', ⟨Nat.le_refl _⟩, ⟨by repeat (first | (with_reducible first | exact HB.out | apply below_alloc | apply pw_below_drewN | apply below_drew1) | exact HB.out)⟩⟩
  case round =>
    clear H'
    try clear p2
    obtain ⟨x6_1, x7_1, x8_1, rfl, rfl, rfl, HA, HK1, HB⟩ := hrel
    cases gk with
    | zero => exact absurd HA.out (by simp [conchref1_Place.l0])
    | succ k1 =>
      have H := HA.out
      clear HA
      simp only [conchref1_Place.l0] at H
      by_cases c5 : x8_1 < ji4
      · rw [if_pos c5] at H
        have c5b0 : decide (x8_1 < ji4) = true := decide_eq_true c5
        clear c5
        by_cases c6 : 0 ≤ x8_1
        · rw [if_pos c6] at H
          have c6b0 : decide (0 ≤ x8_1) = true := decide_eq_true c6
          clear c6
          by_cases c7 : x8_1 < (a0.size : Int)
          · rw [if_pos c7] at H
            have c7b0 : decide (x8_1 < (a0.size : Int)) = true := decide_eq_true c7
            clear c7
            by_cases c9 : (bt a0 x8_1) = 10
            · rw [if_pos c9] at H
              have c9b0 : ((bt a0 x8_1) == 10) = true := beq_iff_eq.mpr c9
              have c9b1 : ((bt a0 x8_1) != 10) = false := bne_eq_false_iff_eq.mpr c9
              clear c9
              have H' := Aside0.mk H
              clear H
              have p8 : 0 ≤ (x8_1 : Int) := of_decide_eq_true (by first | (with_reducible assumption) | assumption)
              have q8 : x8_1 < (a0.size : Int) := of_decide_eq_true (by first | (with_reducible assumption) | assumption)
              have hx8 := bt_at a0 x8_1
              replace p8 := eq_true p8
              replace q8 := eq_true q8
              go_wp2
              go_roundg k1
              case measure => have := HK1.out; omega
              case rel => exact ⟨(wrap64 (x6_1 + 1)), (1), (wrap64 (x8_1 + 1)), (by first | rfl | (simp; done) | (simp [*]; done)), (by first | rfl | (simp; done) | (simp [*]; done)), (by first | rfl | (simp; done) | (simp [*]; done)), H', ⟨by have := HK1.out; omega⟩, ⟨by repeat (first | (with_reducible first | exact HB.out | apply below_alloc | apply pw_below_drewN | apply below_drew1) | exact HB.out)⟩⟩
            · rw [if_neg c9] at H
              have c9b0 : ((bt a0 x8_1) == 10) = false := beq_eq_false_iff_ne.mpr c9
              have c9b1 : ((bt a0 x8_1) != 10) = true := bne_iff_ne.mpr c9
              have H' := Aside0.mk H
              clear H
              have p8 : 0 ≤ (x8_1 : Int) := of_decide_eq_true (by first | (with_reducible assumption) | assumption)
              have q8 : x8_1 < (a0.size : Int) := of_decide_eq_true (by first | (with_reducible assumption) | assumption)
              have hx8 := bt_at a0 x8_1
              replace p8 := eq_true p8
              replace q8 := eq_true q8
              go_wp2
              go_roundg k1
              case measure => have := HK1.out; omega
              case rel => exact ⟨(x6_1), (wrap64 (x7_1 + 1)), (wrap64 (x8_1 + 1)), (by first | rfl | (simp; done) | (simp [*]; done)), (by first | rfl | (simp; done) | (simp [*]; done)), (by first | rfl | (simp; done) | (simp [*]; done)), H', ⟨by have := HK1.out; omega⟩, ⟨by repeat (first | (with_reducible first | exact HB.out | apply below_alloc | apply pw_below_drewN | apply below_drew1) | exact HB.out)⟩⟩
          · rw [if_neg c7] at H
            exact absurd H (by simp)
        · rw [if_neg c6] at H
          exact absurd H (by simp)
      · rw [if_neg c5] at H
        have c5b0 : decide (x8_1 < ji4) = false := decide_eq_false c5
        clear c5
        simp only [Option.some.injEq, Prod.mk.injEq] at H
        obtain ⟨rfl, rfl⟩ := H
        go_wp2
        go_ret2
        exact ⟨by first | rfl | (simp [errW_none, errW_some] <;> rfl) | (simp only [← hji3, ← hji4]; first | rfl | (simp [errW_none, errW_some] <;> rfl)) | (simp [*, errW_none, errW_some] <;> rfl), by repeat (first | (with_reducible first | exact HB.out | apply below_alloc | apply pw_below_drewN | apply below_drew1) | exact HB.out)⟩

/-! ### conchlaw2_PosTells: function 4 -/
mutual
def conchlaw2_PosTells.l0 : Nat → ByteArray → Int → Int → Int → Int → Option (Bool)
  | 0, _, _, _, _, _ => none
  | k + 1, x0, x1, x2, x3, x9 => if x9 < 2 then ((pos_Of.f k x0 x1).bind fun bt127 => ((conchref1_Place.f k x0 x1).bind fun bt129 => (if bt127.1 = bt129.1 then (conchlaw2_PosTells.j1 k x0 x1 x2 x3 x9 (bt127.2 != bt129.2)) else (conchlaw2_PosTells.j1 k x0 x1 x2 x3 x9 true)))) else ((conchlaw2_awake.f k).bind fun t126 => (some t126))
def conchlaw2_PosTells.j1 : Nat → ByteArray → Int → Int → Int → Int → Bool → Option (Bool)
  | 0, _, _, _, _, _, _ => none
  | k + 1, x0, x1, x2, x3, x9, x46 => if x46 = true then (some false) else (conchlaw2_PosTells.l1 k x0 x1 x2 x3 x9 0 false 0)
def conchlaw2_PosTells.l1 : Nat → ByteArray → Int → Int → Int → Int → Int → Bool → Int → Option (Bool)
  | 0, _, _, _, _, _, _, _, _ => none
  | k + 1, x0, x1, x2, x3, x9, x14, x15, x16 => if x16 ≤ (x0.size : Int) then (conchlaw2_PosTells.j3 k x0 x1 x2 x3 x9 x14 x15 x16 (!x15)) else (conchlaw2_PosTells.j3 k x0 x1 x2 x3 x9 x14 x15 x16 false)
def conchlaw2_PosTells.j3 : Nat → ByteArray → Int → Int → Int → Int → Int → Bool → Int → Bool → Option (Bool)
  | 0, _, _, _, _, _, _, _, _, _ => none
  | k + 1, x0, x1, x2, x3, x9, x14, x15, x16, x54 => if x54 = true then ((conchref1_Place.f k x0 x16).bind fun bt131 => (if bt131.1 = x2 then (if bt131.2 = x3 then (conchlaw2_PosTells.l1 k x0 x1 x2 x3 x9 x16 true (wrap64 (x16 + 1))) else (conchlaw2_PosTells.l1 k x0 x1 x2 x3 x9 x14 x15 (wrap64 (x16 + 1)))) else (conchlaw2_PosTells.l1 k x0 x1 x2 x3 x9 x14 x15 (wrap64 (x16 + 1))))) else ((pos_At.f k x0 x2 x3).bind fun bt133 => (if (bt133.2 != x15) = true then (some false) else (if bt133.1 = x14 then (if (wrap64 ((x0.size : Int) + 1)) = 0 then (none) else (conchlaw2_PosTells.l0 k x0 (Int.tmod (Go.bits .and .i64 x1 65535) (wrap64 ((x0.size : Int) + 1))) (Go.bits .and .i64 x2 7) (Go.bits .and .i64 x3 31) (wrap64 (x9 + 1)))) else (some false))))
end
def conchlaw2_PosTells.f (k : Nat) (a0 : ByteArray) (a1 : Int) (a2 : Int) (a3 : Int) : Option (Bool) := if (a0.size : Int) > 200 then ((conchlaw2_awake.f k).bind fun t125 => (some t125)) else (conchlaw2_PosTells.l0 k a0 a1 a2 a3 0)
theorem conchlaw2_PosTells.mono_l : ∀ k, (∀ y0 y1 y2 y3 y4, LeO (conchlaw2_PosTells.l0 k y0 y1 y2 y3 y4) (conchlaw2_PosTells.l0 (k + 1) y0 y1 y2 y3 y4)) ∧ (∀ y0 y1 y2 y3 y4 y5, LeO (conchlaw2_PosTells.j1 k y0 y1 y2 y3 y4 y5) (conchlaw2_PosTells.j1 (k + 1) y0 y1 y2 y3 y4 y5)) ∧ (∀ y0 y1 y2 y3 y4 y5 y6 y7, LeO (conchlaw2_PosTells.l1 k y0 y1 y2 y3 y4 y5 y6 y7) (conchlaw2_PosTells.l1 (k + 1) y0 y1 y2 y3 y4 y5 y6 y7)) ∧ (∀ y0 y1 y2 y3 y4 y5 y6 y7 y8, LeO (conchlaw2_PosTells.j3 k y0 y1 y2 y3 y4 y5 y6 y7 y8) (conchlaw2_PosTells.j3 (k + 1) y0 y1 y2 y3 y4 y5 y6 y7 y8))
  | 0 => ⟨fun _ _ _ _ _ r h => by simp [conchlaw2_PosTells.l0] at h, fun _ _ _ _ _ _ r h => by simp [conchlaw2_PosTells.j1] at h, fun _ _ _ _ _ _ _ _ r h => by simp [conchlaw2_PosTells.l1] at h, fun _ _ _ _ _ _ _ _ _ r h => by simp [conchlaw2_PosTells.j3] at h⟩
  | k + 1 => by
    obtain ⟨ih0, ih1, ih2, ih3⟩ := conchlaw2_PosTells.mono_l k
    refine ⟨?_, ?_, ?_, ?_⟩
    · intro y0 y1 y2 y3 y4
      unfold conchlaw2_PosTells.l0
      repeat' first
      | (with_reducible exact ih0 _ _ _ _ _)
      | (with_reducible exact ih1 _ _ _ _ _ _)
      | (with_reducible exact ih2 _ _ _ _ _ _ _ _)
      | (with_reducible exact ih3 _ _ _ _ _ _ _ _ _)
      | (with_reducible exact conchlaw2_awake.mono _)
      | (with_reducible exact conchref1_Place.mono _ _ _)
      | (with_reducible exact pos_At.mono _ _ _ _)
      | (with_reducible exact pos_Of.mono _ _ _)
      | (with_reducible exact LeO.refl _)
      | (with_reducible exact LeO.none _)
      | (with_reducible refine LeO.ite ?_ ?_)
      | (with_reducible refine LeO.bind ?_ (fun _ => ?_))
      | exact ih0 _ _ _ _ _
      | exact ih1 _ _ _ _ _ _
      | exact ih2 _ _ _ _ _ _ _ _
      | exact ih3 _ _ _ _ _ _ _ _ _
      | exact conchlaw2_awake.mono _
      | exact conchref1_Place.mono _ _ _
      | exact pos_At.mono _ _ _ _
      | exact pos_Of.mono _ _ _
      | exact LeO.none _
      | refine LeO.ite ?_ ?_
      | refine LeO.bind ?_ (fun _ => ?_)
    · intro y0 y1 y2 y3 y4 y5
      unfold conchlaw2_PosTells.j1
      repeat' first
      | (with_reducible exact ih0 _ _ _ _ _)
      | (with_reducible exact ih1 _ _ _ _ _ _)
      | (with_reducible exact ih2 _ _ _ _ _ _ _ _)
      | (with_reducible exact ih3 _ _ _ _ _ _ _ _ _)
      | (with_reducible exact conchlaw2_awake.mono _)
      | (with_reducible exact conchref1_Place.mono _ _ _)
      | (with_reducible exact pos_At.mono _ _ _ _)
      | (with_reducible exact pos_Of.mono _ _ _)
      | (with_reducible exact LeO.refl _)
      | (with_reducible exact LeO.none _)
      | (with_reducible refine LeO.ite ?_ ?_)
      | (with_reducible refine LeO.bind ?_ (fun _ => ?_))
      | exact ih0 _ _ _ _ _
      | exact ih1 _ _ _ _ _ _
      | exact ih2 _ _ _ _ _ _ _ _
      | exact ih3 _ _ _ _ _ _ _ _ _
      | exact conchlaw2_awake.mono _
      | exact conchref1_Place.mono _ _ _
      | exact pos_At.mono _ _ _ _
      | exact pos_Of.mono _ _ _
      | exact LeO.none _
      | refine LeO.ite ?_ ?_
      | refine LeO.bind ?_ (fun _ => ?_)
    · intro y0 y1 y2 y3 y4 y5 y6 y7
      unfold conchlaw2_PosTells.l1
      repeat' first
      | (with_reducible exact ih0 _ _ _ _ _)
      | (with_reducible exact ih1 _ _ _ _ _ _)
      | (with_reducible exact ih2 _ _ _ _ _ _ _ _)
      | (with_reducible exact ih3 _ _ _ _ _ _ _ _ _)
      | (with_reducible exact conchlaw2_awake.mono _)
      | (with_reducible exact conchref1_Place.mono _ _ _)
      | (with_reducible exact pos_At.mono _ _ _ _)
      | (with_reducible exact pos_Of.mono _ _ _)
      | (with_reducible exact LeO.refl _)
      | (with_reducible exact LeO.none _)
      | (with_reducible refine LeO.ite ?_ ?_)
      | (with_reducible refine LeO.bind ?_ (fun _ => ?_))
      | exact ih0 _ _ _ _ _
      | exact ih1 _ _ _ _ _ _
      | exact ih2 _ _ _ _ _ _ _ _
      | exact ih3 _ _ _ _ _ _ _ _ _
      | exact conchlaw2_awake.mono _
      | exact conchref1_Place.mono _ _ _
      | exact pos_At.mono _ _ _ _
      | exact pos_Of.mono _ _ _
      | exact LeO.none _
      | refine LeO.ite ?_ ?_
      | refine LeO.bind ?_ (fun _ => ?_)
    · intro y0 y1 y2 y3 y4 y5 y6 y7 y8
      unfold conchlaw2_PosTells.j3
      repeat' first
      | (with_reducible exact ih0 _ _ _ _ _)
      | (with_reducible exact ih1 _ _ _ _ _ _)
      | (with_reducible exact ih2 _ _ _ _ _ _ _ _)
      | (with_reducible exact ih3 _ _ _ _ _ _ _ _ _)
      | (with_reducible exact conchlaw2_awake.mono _)
      | (with_reducible exact conchref1_Place.mono _ _ _)
      | (with_reducible exact pos_At.mono _ _ _ _)
      | (with_reducible exact pos_Of.mono _ _ _)
      | (with_reducible exact LeO.refl _)
      | (with_reducible exact LeO.none _)
      | (with_reducible refine LeO.ite ?_ ?_)
      | (with_reducible refine LeO.bind ?_ (fun _ => ?_))
      | exact ih0 _ _ _ _ _
      | exact ih1 _ _ _ _ _ _
      | exact ih2 _ _ _ _ _ _ _ _
      | exact ih3 _ _ _ _ _ _ _ _ _
      | exact conchlaw2_awake.mono _
      | exact conchref1_Place.mono _ _ _
      | exact pos_At.mono _ _ _ _
      | exact pos_Of.mono _ _ _
      | exact LeO.none _
      | refine LeO.ite ?_ ?_
      | refine LeO.bind ?_ (fun _ => ?_)
theorem conchlaw2_PosTells.mono : ∀ a0 a1 a2 a3 k, LeO (conchlaw2_PosTells.f k a0 a1 a2 a3) (conchlaw2_PosTells.f (k + 1) a0 a1 a2 a3) := by
  intro a0 a1 a2 a3 k
  obtain ⟨ih0, ih1, ih2, ih3⟩ := conchlaw2_PosTells.mono_l k
  unfold conchlaw2_PosTells.f
  repeat' first
      | (with_reducible exact ih0 _ _ _ _ _)
      | (with_reducible exact ih1 _ _ _ _ _ _)
      | (with_reducible exact ih2 _ _ _ _ _ _ _ _)
      | (with_reducible exact ih3 _ _ _ _ _ _ _ _ _)
      | (with_reducible exact conchlaw2_awake.mono _)
      | (with_reducible exact conchref1_Place.mono _ _ _)
      | (with_reducible exact pos_At.mono _ _ _ _)
      | (with_reducible exact pos_Of.mono _ _ _)
      | (with_reducible exact LeO.refl _)
      | (with_reducible exact LeO.none _)
      | (with_reducible refine LeO.ite ?_ ?_)
      | (with_reducible refine LeO.bind ?_ (fun _ => ?_))
      | exact ih0 _ _ _ _ _
      | exact ih1 _ _ _ _ _ _
      | exact ih2 _ _ _ _ _ _ _ _
      | exact ih3 _ _ _ _ _ _ _ _ _
      | exact conchlaw2_awake.mono _
      | exact conchref1_Place.mono _ _ _
      | exact pos_At.mono _ _ _ _
      | exact pos_Of.mono _ _ _
      | exact LeO.none _
      | refine LeO.ite ?_ ?_
      | refine LeO.bind ?_ (fun _ => ?_)
set_option maxHeartbeats 8000000 in
set_option maxRecDepth 100000 in
theorem conchlaw2_PosTells.calls (k : Nat) (a0 : ByteArray) (a1 : Int) (a2 : Int) (a3 : Int) (r : Bool) (w : World) (h : conchlaw2_PosTells.f k a0 a1 a2 a3 = some r) :
    Calls Try.prog 4 #[.string a0, .int .i64 a1, .int .i64 a2, .int .i64 a3] w fun e w' => e = .returned (.bool r) ∧ Below w.heap.size w w' := by
  have HB := Aside0.mk (Below.refl w.heap.size w)
  have H : (if (a0.size : Int) > 200 then ((conchlaw2_awake.f k).bind fun t125 => (some t125)) else (conchlaw2_PosTells.l0 k a0 a1 a2 a3 0)) = some r := h
  clear h
  by_cases c5 : (a0.size : Int) > 200
  · rw [if_pos c5] at H
    have c5b0 : decide (200 < (a0.size : Int)) = true := decide_eq_true c5
    have c5b1 : decide (200 < a0.size) = true := decide_eq_true (by omega)
    clear c5
    replace H := Option.bind_eq_some_iff.mp H
    obtain ⟨t125, A60, H⟩ := H
    replace H : (some t125) = some r := H
    have A6 := Aside0.mk A60
    clear A60
    obtain rfl := Option.some.inj H
    go_enter Try.func4, Try.ntmps4
    go_wp2_with (first | ((with_reducible refine gate_callee (f := 6) rfl ?_); refine goesL_ (some 22) rfl rfl Try.func6 (by kernel_rfl) rfl #[] rfl (by (try simp only [List.map_toArray, List.map_cons, List.map_nil]); first | done | rfl | (simp only [List.length_drop, List.length_take]; rfl)) ?_; (with_reducible refine (conchlaw2_awake.calls k  t125 _ A6.out).mono ?_); rintro e w7 ⟨rfl, hb⟩; refine ⟨_, rfl, ?_⟩; have n0_ := Aside0.mk (below_step (by repeat (first | (with_reducible first | exact HB.out | apply below_alloc | apply pw_below_drewN | apply below_drew1) | exact HB.out)) hb); clear HB; have HB := n0_; clear n0_; (try clear hb); (try clear hb2); (try clear hk); (try clear hi)))
    go_ret
    exact ⟨by first | rfl | (simp [errW_none, errW_some] <;> rfl) | (simp [*, errW_none, errW_some] <;> rfl), by repeat (first | (with_reducible first | exact HB.out | apply below_alloc | apply pw_below_drewN | apply below_drew1) | exact HB.out)⟩
  · rw [if_neg c5] at H
    have c5b0 : decide (200 < (a0.size : Int)) = false := decide_eq_false c5
    have c5b1 : decide (200 < a0.size) = false := decide_eq_false (by omega)
    clear c5
    have H' := Aside0.mk H
    clear H
    go_enter Try.func4, Try.ntmps4
    go_wp2
    go_loopg [1, 2, 3, 9] k (fun kq v1 v2 v3 v9 w' => ∃ (x1_1 : Int) (x2_1 : Int) (x3_1 : Int) (x9_1 : Int), v1 = .int .i64 x1_1 ∧ v2 = .int .i64 x2_1 ∧ v3 = .int .i64 x3_1 ∧ v9 = .int .i64 x9_1 ∧ Aside0 (conchlaw2_PosTells.l0 kq a0 x1_1 x2_1 x3_1 x9_1 = some r) ∧ Aside0 (kq ≤ k) ∧ Aside0 (Below w.heap.size w w'))
    case atStart => exact ⟨(a1), (a2), (a3), (0), (by first | rfl | (simp; done) | (simp [*]; done)), (by first | rfl | (simp; done) | (simp [*]; done)), (by first | rfl | (simp; done) | (simp [*]; done)), (by first | rfl | (simp; done) | (simp [*]; done)), H', ⟨Nat.le_refl _⟩, ⟨by repeat (first | (with_reducible first | exact HB.out | apply below_alloc | apply pw_below_drewN | apply below_drew1) | exact HB.out)⟩⟩
    case round =>
      clear H'
      try clear p2
      try clear c4
      try clear c5
      try clear c5b0
      try clear c5b1
      try clear c6
      obtain ⟨x1_1, x2_1, x3_1, x9_1, rfl, rfl, rfl, rfl, HA, HK1, HB⟩ := hrel
      cases gk with
      | zero => exact absurd HA.out (by simp [conchlaw2_PosTells.l0])
      | succ k1 =>
        have H := HA.out
        clear HA
        simp only [conchlaw2_PosTells.l0] at H
        by_cases c8 : x9_1 < 2
        · rw [if_pos c8] at H
          have c8b0 : decide (x9_1 < 2) = true := decide_eq_true c8
          clear c8
          replace H := Option.bind_eq_some_iff.mp H
          obtain ⟨⟨t127, t128⟩, A90, H⟩ := H
          replace H : ((conchref1_Place.f k1 a0 x1_1).bind fun bt129 => (if t127 = bt129.1 then (conchlaw2_PosTells.j1 k1 a0 x1_1 x2_1 x3_1 x9_1 (t128 != bt129.2)) else (conchlaw2_PosTells.j1 k1 a0 x1_1 x2_1 x3_1 x9_1 true))) = some r := H
          have A9 := Aside0.mk A90
          clear A90
          replace H := Option.bind_eq_some_iff.mp H
          obtain ⟨⟨t129, t130⟩, A100, H⟩ := H
          replace H : (if t127 = t129 then (conchlaw2_PosTells.j1 k1 a0 x1_1 x2_1 x3_1 x9_1 (t128 != t130)) else (conchlaw2_PosTells.j1 k1 a0 x1_1 x2_1 x3_1 x9_1 true)) = some r := H
          have A10 := Aside0.mk A100
          clear A100
          have HC11 := Aside0.mk H
          clear H
          go_upto_region 8 with (first | ((with_reducible refine gate_callee (f := 7) rfl ?_); refine goesL_ (some 30) rfl rfl Try.func7 (by kernel_rfl) rfl #[.string a0, .int .i64 x1_1] rfl (by (try simp only [List.map_toArray, List.map_cons, List.map_nil]); first | done | rfl | (simp only [List.length_drop, List.length_take]; rfl)) ?_; (with_reducible refine (pos_Of.calls k1 a0 x1_1 t127 t128 _ A9.out).mono ?_); rintro e w12 ⟨rfl, hb⟩; refine ⟨_, rfl, ?_⟩; have n0_ := Aside0.mk (below_step (by repeat (first | (with_reducible first | exact HB.out | apply below_alloc | apply pw_below_drewN | apply below_drew1) | exact HB.out)) hb); clear HB; have HB := n0_; clear n0_; (try clear hb); (try clear hb2); (try clear hk); (try clear hi)) | ((with_reducible refine gate_callee (f := 9) rfl ?_); refine goesL_ (some 36) rfl rfl Try.func9 (by kernel_rfl) rfl #[.string a0, .int .i64 x1_1] rfl (by (try simp only [List.map_toArray, List.map_cons, List.map_nil]); first | done | rfl | (simp only [List.length_drop, List.length_take]; rfl)) ?_; (with_reducible refine (conchref1_Place.calls k1 a0 x1_1 t129 t130 _ A10.out).mono ?_); rintro e w13 ⟨rfl, hb⟩; refine ⟨_, rfl, ?_⟩; have n0_ := Aside0.mk (below_step (by repeat (first | (with_reducible first | exact HB.out | apply below_alloc | apply pw_below_drewN | apply below_drew1) | exact HB.out)) hb); clear HB; have HB := n0_; clear n0_; (try clear hb); (try clear hb2); (try clear hk); (try clear hi)))
          (try simp only [Act.put, List.setIfInBounds_toArray, List.set_cons_zero, List.set_cons_succ])
          go_cut [46] (fun v46 wc => ∃ (kq : Nat) (x46_10 : Bool), v46 = .bool x46_10 ∧ Aside0 (conchlaw2_PosTells.j1 kq a0 x1_1 x2_1 x3_1 x9_1 x46_10 = some r) ∧ Aside0 (kq ≤ k1) ∧ Aside0 (Below w.heap.size w wc))
          case first =>
            have H := HC11.out
            clear HC11
            by_cases c14 : t127 = t129
            · rw [if_pos c14] at H
              have c14b0 : (t127 == t129) = true := beq_iff_eq.mpr c14
              have c14b1 : (t127 != t129) = false := bne_eq_false_iff_eq.mpr c14
              clear c14
              (first | rw [c14b0] | (simp only [i64_w, i32_w]; rw [c14b0]) | skip)
              have H' := Aside0.mk H
              clear H
              go_wp2
              go_meet
              case rel => exact ⟨_, ((t128 != t130)), (by first | rfl | (simp; done) | (simp [*]; done)), H', ⟨by have := HK1.out; first | omega | exact Nat.le_refl _⟩, ⟨by repeat (first | (with_reducible first | exact HB.out | apply below_alloc | apply pw_below_drewN | apply below_drew1) | exact HB.out)⟩⟩
            · rw [if_neg c14] at H
              have c14b0 : (t127 == t129) = false := beq_eq_false_iff_ne.mpr c14
              have c14b1 : (t127 != t129) = true := bne_iff_ne.mpr c14
              (first | rw [c14b0] | (simp only [i64_w, i32_w]; rw [c14b0]) | skip)
              have H' := Aside0.mk H
              clear H
              go_wp2
              go_meet
              case rel => exact ⟨_, (true), (by first | rfl | (simp; done) | (simp [*]; done)), H', ⟨by have := HK1.out; first | omega | exact Nat.le_refl _⟩, ⟨by repeat (first | (with_reducible first | exact HB.out | apply below_alloc | apply pw_below_drewN | apply below_drew1) | exact HB.out)⟩⟩
          case rest =>
            clear HC11
            try clear c1
            try clear p2
            try clear c4
            try clear c5
            try clear c5b0
            try clear c5b1
            try clear c6
            try clear c7
            try clear c8
            try clear c8b0
            try clear c9
            try clear c14
            try clear c14b0
            try clear c14b1
            try clear p2
            obtain ⟨kq, x46_10, rfl, HA, HJ10, HB⟩ := hcut
            cases kq with
            | zero => exact absurd HA.out (by simp [conchlaw2_PosTells.j1])
            | succ kj10 =>
              have H := HA.out
              clear HA
              simp only [conchlaw2_PosTells.j1] at H
              by_cases c15 : x46_10 = true
              · subst c15
                have H1 : (some false) = some r := by rw [if_pos rfl] at H; exact H
                clear H
                have H := H1
                clear H1
                obtain rfl := Option.some.inj H
                go_wp2
                go_ret
                exact ⟨by first | rfl | (simp [errW_none, errW_some] <;> rfl) | (simp [*, errW_none, errW_some] <;> rfl), by repeat (first | (with_reducible first | exact HB.out | apply below_alloc | apply pw_below_drewN | apply below_drew1) | exact HB.out)⟩
              · replace c15 := Bool.eq_false_iff.mpr c15
                subst c15
                have H1 : (conchlaw2_PosTells.l1 kj10 a0 x1_1 x2_1 x3_1 x9_1 0 false 0) = some r := by rw [if_neg (show ¬ (false = true) by decide)] at H; exact H
                clear H
                have H := H1
                clear H1
                have H' := Aside0.mk H
                clear H
                go_wp2
                go_loopg [14, 15, 16] kj10 (fun kq v14 v15 v16 w' => ∃ (x14_3 : Int) (x15_3 : Bool) (x16_3 : Int), v14 = .int .i64 x14_3 ∧ v15 = .bool x15_3 ∧ v16 = .int .i64 x16_3 ∧ Aside0 (conchlaw2_PosTells.l1 kq a0 x1_1 x2_1 x3_1 x9_1 x14_3 x15_3 x16_3 = some r) ∧ Aside0 (kq ≤ kj10) ∧ Aside0 (Below w.heap.size w w'))
                case atStart => exact ⟨(0), (false), (0), (by first | rfl | (simp; done) | (simp [*]; done)), (by first | rfl | (simp; done) | (simp [*]; done)), (by first | rfl | (simp; done) | (simp [*]; done)), H', ⟨Nat.le_refl _⟩, ⟨by repeat (first | (with_reducible first | exact HB.out | apply below_alloc | apply pw_below_drewN | apply below_drew1) | exact HB.out)⟩⟩
                case round =>
                  clear H'
                  try clear c1
                  try clear p2
                  try clear c4
                  try clear c5
                  try clear c5b0
                  try clear c5b1
                  try clear c6
                  try clear c7
                  try clear c8
                  try clear c8b0
                  try clear c9
                  try clear c14
                  try clear c14b0
                  try clear c14b1
                  try clear c15
                  try clear p2
                  obtain ⟨x14_3, x15_3, x16_3, rfl, rfl, rfl, HA, HK3, HB⟩ := hrel
                  cases gk with
                  | zero => exact absurd HA.out (by simp [conchlaw2_PosTells.l1])
                  | succ k3 =>
                    have H := HA.out
                    clear HA
                    simp only [conchlaw2_PosTells.l1] at H
                    have HC16 := Aside0.mk H
                    clear H
                    go_upto_region 12 with (fail)
                    go_cut [54] (fun v54 wc => ∃ (kq : Nat) (x54_15 : Bool), v54 = .bool x54_15 ∧ Aside0 (conchlaw2_PosTells.j3 kq a0 x1_1 x2_1 x3_1 x9_1 x14_3 x15_3 x16_3 x54_15 = some r) ∧ Aside0 (kq ≤ k3) ∧ Aside0 (Below w.heap.size w wc))
                    case first =>
                      have H := HC16.out
                      clear HC16
                      by_cases c17 : x16_3 ≤ (a0.size : Int)
                      · rw [if_pos c17] at H
                        have c17b0 : decide (x16_3 ≤ (a0.size : Int)) = true := decide_eq_true c17
                        clear c17
                        (first | rw [c17b0] | (simp only [i64_w, i32_w]; rw [c17b0]) | skip)
                        have H' := Aside0.mk H
                        clear H
                        go_wp2
                        go_meet
                        case rel => exact ⟨_, (!x15_3), (by first | rfl | (simp; done) | (simp [*]; done)), H', ⟨by have := HK1.out; have := HJ10.out; have := HK3.out; first | omega | exact Nat.le_refl _⟩, ⟨by repeat (first | (with_reducible first | exact HB.out | apply below_alloc | apply pw_below_drewN | apply below_drew1) | exact HB.out)⟩⟩
                      · rw [if_neg c17] at H
                        have c17b0 : decide (x16_3 ≤ (a0.size : Int)) = false := decide_eq_false c17
                        clear c17
                        (first | rw [c17b0] | (simp only [i64_w, i32_w]; rw [c17b0]) | skip)
                        have H' := Aside0.mk H
                        clear H
                        go_wp2
                        go_meet
                        case rel => exact ⟨_, (false), (by first | rfl | (simp; done) | (simp [*]; done)), H', ⟨by have := HK1.out; have := HJ10.out; have := HK3.out; first | omega | exact Nat.le_refl _⟩, ⟨by repeat (first | (with_reducible first | exact HB.out | apply below_alloc | apply pw_below_drewN | apply below_drew1) | exact HB.out)⟩⟩
                    case rest =>
                      clear HC16
                      try clear c1
                      try clear p2
                      try clear c4
                      try clear c5
                      try clear c5b0
                      try clear c5b1
                      try clear c6
                      try clear c7
                      try clear c8
                      try clear c8b0
                      try clear c9
                      try clear c14
                      try clear c14b0
                      try clear c14b1
                      try clear c15
                      try clear c17
                      try clear c17b0
                      try clear p2
                      obtain ⟨kq, x54_15, rfl, HA, HJ15, HB⟩ := hcut
                      cases kq with
                      | zero => exact absurd HA.out (by simp [conchlaw2_PosTells.j3])
                      | succ kj15 =>
                        have H := HA.out
                        clear HA
                        simp only [conchlaw2_PosTells.j3] at H
                        by_cases c18 : x54_15 = true
                        · subst c18
                          have H1 : ((conchref1_Place.f kj15 a0 x16_3).bind fun bt131 => (if bt131.1 = x2_1 then (if bt131.2 = x3_1 then (conchlaw2_PosTells.l1 kj15 a0 x1_1 x2_1 x3_1 x9_1 x16_3 true (wrap64 (x16_3 + 1))) else (conchlaw2_PosTells.l1 kj15 a0 x1_1 x2_1 x3_1 x9_1 x14_3 x15_3 (wrap64 (x16_3 + 1)))) else (conchlaw2_PosTells.l1 kj15 a0 x1_1 x2_1 x3_1 x9_1 x14_3 x15_3 (wrap64 (x16_3 + 1))))) = some r := by rw [if_pos rfl] at H; exact H
                          clear H
                          have H := H1
                          clear H1
                          replace H := Option.bind_eq_some_iff.mp H
                          obtain ⟨⟨t131, t132⟩, A190, H⟩ := H
                          replace H : (if t131 = x2_1 then (if t132 = x3_1 then (conchlaw2_PosTells.l1 kj15 a0 x1_1 x2_1 x3_1 x9_1 x16_3 true (wrap64 (x16_3 + 1))) else (conchlaw2_PosTells.l1 kj15 a0 x1_1 x2_1 x3_1 x9_1 x14_3 x15_3 (wrap64 (x16_3 + 1)))) else (conchlaw2_PosTells.l1 kj15 a0 x1_1 x2_1 x3_1 x9_1 x14_3 x15_3 (wrap64 (x16_3 + 1)))) = some r := H
                          have A19 := Aside0.mk A190
                          clear A190
                          by_cases c20 : t131 = x2_1
                          · rw [if_pos c20] at H
                            have c20b0 : (t131 == x2_1) = true := beq_iff_eq.mpr c20
                            have c20b1 : (t131 != x2_1) = false := bne_eq_false_iff_eq.mpr c20
                            clear c20
                            by_cases c21 : t132 = x3_1
                            · rw [if_pos c21] at H
                              have c21b0 : (t132 == x3_1) = true := beq_iff_eq.mpr c21
                              have c21b1 : (t132 != x3_1) = false := bne_eq_false_iff_eq.mpr c21
                              clear c21
                              have H' := Aside0.mk H
                              clear H
                              go_wp2_with (first | ((with_reducible refine gate_callee (f := 9) rfl ?_); refine goesL_ (some 60) rfl rfl Try.func9 (by kernel_rfl) rfl #[.string a0, .int .i64 x16_3] rfl (by (try simp only [List.map_toArray, List.map_cons, List.map_nil]); first | done | rfl | (simp only [List.length_drop, List.length_take]; rfl)) ?_; (with_reducible refine (conchref1_Place.calls kj15 a0 x16_3 t131 t132 _ A19.out).mono ?_); rintro e w22 ⟨rfl, hb⟩; refine ⟨_, rfl, ?_⟩; have n0_ := Aside0.mk (below_step (by repeat (first | (with_reducible first | exact HB.out | apply below_alloc | apply pw_below_drewN | apply below_drew1) | exact HB.out)) hb); clear HB; have HB := n0_; clear n0_; (try clear hb); (try clear hb2); (try clear hk); (try clear hi)))
                              go_roundg kj15
                              case measure => have := HK1.out; have := HJ10.out; have := HK3.out; have := HJ15.out; omega
                              case rel => exact ⟨(x16_3), (true), (wrap64 (x16_3 + 1)), (by first | rfl | (simp; done) | (simp [*]; done)), (by first | rfl | (simp; done) | (simp [*]; done)), (by first | rfl | (simp; done) | (simp [*]; done)), H', ⟨by have := HK1.out; have := HJ10.out; have := HK3.out; have := HJ15.out; omega⟩, ⟨by repeat (first | (with_reducible first | exact HB.out | apply below_alloc | apply pw_below_drewN | apply below_drew1) | exact HB.out)⟩⟩
                            · rw [if_neg c21] at H
                              have c21b0 : (t132 == x3_1) = false := beq_eq_false_iff_ne.mpr c21
                              have c21b1 : (t132 != x3_1) = true := bne_iff_ne.mpr c21
                              have H' := Aside0.mk H
                              clear H
                              go_wp2_with (first | ((with_reducible refine gate_callee (f := 9) rfl ?_); refine goesL_ (some 60) rfl rfl Try.func9 (by kernel_rfl) rfl #[.string a0, .int .i64 x16_3] rfl (by (try simp only [List.map_toArray, List.map_cons, List.map_nil]); first | done | rfl | (simp only [List.length_drop, List.length_take]; rfl)) ?_; (with_reducible refine (conchref1_Place.calls kj15 a0 x16_3 t131 t132 _ A19.out).mono ?_); rintro e w23 ⟨rfl, hb⟩; refine ⟨_, rfl, ?_⟩; have n0_ := Aside0.mk (below_step (by repeat (first | (with_reducible first | exact HB.out | apply below_alloc | apply pw_below_drewN | apply below_drew1) | exact HB.out)) hb); clear HB; have HB := n0_; clear n0_; (try clear hb); (try clear hb2); (try clear hk); (try clear hi)))
                              go_roundg kj15
                              case measure => have := HK1.out; have := HJ10.out; have := HK3.out; have := HJ15.out; omega
                              case rel => exact ⟨(x14_3), (x15_3), (wrap64 (x16_3 + 1)), (by first | rfl | (simp; done) | (simp [*]; done)), (by first | rfl | (simp; done) | (simp [*]; done)), (by first | rfl | (simp; done) | (simp [*]; done)), H', ⟨by have := HK1.out; have := HJ10.out; have := HK3.out; have := HJ15.out; omega⟩, ⟨by repeat (first | (with_reducible first | exact HB.out | apply below_alloc | apply pw_below_drewN | apply below_drew1) | exact HB.out)⟩⟩
                          · rw [if_neg c20] at H
                            have c20b0 : (t131 == x2_1) = false := beq_eq_false_iff_ne.mpr c20
                            have c20b1 : (t131 != x2_1) = true := bne_iff_ne.mpr c20
                            have H' := Aside0.mk H
                            clear H
                            go_wp2_with (first | ((with_reducible refine gate_callee (f := 9) rfl ?_); refine goesL_ (some 60) rfl rfl Try.func9 (by kernel_rfl) rfl #[.string a0, .int .i64 x16_3] rfl (by (try simp only [List.map_toArray, List.map_cons, List.map_nil]); first | done | rfl | (simp only [List.length_drop, List.length_take]; rfl)) ?_; (with_reducible refine (conchref1_Place.calls kj15 a0 x16_3 t131 t132 _ A19.out).mono ?_); rintro e w24 ⟨rfl, hb⟩; refine ⟨_, rfl, ?_⟩; have n0_ := Aside0.mk (below_step (by repeat (first | (with_reducible first | exact HB.out | apply below_alloc | apply pw_below_drewN | apply below_drew1) | exact HB.out)) hb); clear HB; have HB := n0_; clear n0_; (try clear hb); (try clear hb2); (try clear hk); (try clear hi)))
                            go_roundg kj15
                            case measure => have := HK1.out; have := HJ10.out; have := HK3.out; have := HJ15.out; omega
                            case rel => exact ⟨(x14_3), (x15_3), (wrap64 (x16_3 + 1)), (by first | rfl | (simp; done) | (simp [*]; done)), (by first | rfl | (simp; done) | (simp [*]; done)), (by first | rfl | (simp; done) | (simp [*]; done)), H', ⟨by have := HK1.out; have := HJ10.out; have := HK3.out; have := HJ15.out; omega⟩, ⟨by repeat (first | (with_reducible first | exact HB.out | apply below_alloc | apply pw_below_drewN | apply below_drew1) | exact HB.out)⟩⟩
                        · replace c18 := Bool.eq_false_iff.mpr c18
                          subst c18
                          have H1 : ((pos_At.f kj15 a0 x2_1 x3_1).bind fun bt133 => (if (bt133.2 != x15_3) = true then (some false) else (if bt133.1 = x14_3 then (if (wrap64 ((a0.size : Int) + 1)) = 0 then (none) else (conchlaw2_PosTells.l0 kj15 a0 (Int.tmod (Go.bits .and .i64 x1_1 65535) (wrap64 ((a0.size : Int) + 1))) (Go.bits .and .i64 x2_1 7) (Go.bits .and .i64 x3_1 31) (wrap64 (x9_1 + 1)))) else (some false)))) = some r := by rw [if_neg (show ¬ (false = true) by decide)] at H; exact H
                          clear H
                          have H := H1
                          clear H1
                          replace H := Option.bind_eq_some_iff.mp H
                          obtain ⟨⟨t133, t134⟩, A250, H⟩ := H
                          replace H : (if (t134 != x15_3) = true then (some false) else (if t133 = x14_3 then (if (wrap64 ((a0.size : Int) + 1)) = 0 then (none) else (conchlaw2_PosTells.l0 kj15 a0 (Int.tmod (Go.bits .and .i64 x1_1 65535) (wrap64 ((a0.size : Int) + 1))) (Go.bits .and .i64 x2_1 7) (Go.bits .and .i64 x3_1 31) (wrap64 (x9_1 + 1)))) else (some false))) = some r := H
                          have A25 := Aside0.mk A250
                          clear A250
                          by_cases c26 : (t134 != x15_3) = true
                          · rw [if_pos c26] at H
                            have c26b0 : (t134 != x15_3) = true := c26
                            (try (have c26b1 : decide (t134 = x15_3) = false := by simpa using c26))
                            (try (have c26b2 : (t134 == x15_3) = false := by simpa using c26))
                            (try (have c26b3 : ¬ (t134 = x15_3) := by simpa using c26))
                            clear c26
                            obtain rfl := Option.some.inj H
                            go_wp2_with (first | ((with_reducible refine gate_callee (f := 8) rfl ?_); refine goesL_ (some 76) rfl rfl Try.func8 (by kernel_rfl) rfl #[.string a0, .int .i64 x2_1, .int .i64 x3_1] rfl (by (try simp only [List.map_toArray, List.map_cons, List.map_nil]); first | done | rfl | (simp only [List.length_drop, List.length_take]; rfl)) ?_; (with_reducible refine (pos_At.calls kj15 a0 x2_1 x3_1 t133 t134 _ A25.out).mono ?_); rintro e w' ⟨rfl, ⟨nd, rfl⟩⟩; refine ⟨_, rfl, ?_⟩))
                            go_ret
                            exact ⟨by first | rfl | (simp [errW_none, errW_some] <;> rfl) | (simp [*, errW_none, errW_some] <;> rfl), by repeat (first | (with_reducible first | exact HB.out | apply below_alloc | apply pw_below_drewN | apply below_drew1) | exact HB.out)⟩
                          · rw [if_neg c26] at H
                            have c26b0 : (t134 != x15_3) = false := by simpa using c26
                            (try (have c26b1 : decide (t134 = x15_3) = true := by simpa using c26))
                            (try (have c26b2 : (t134 == x15_3) = true := by simpa using c26))
                            clear c26
                            by_cases c27 : t133 = x14_3
                            · rw [if_pos c27] at H
                              have c27b0 : (t133 == x14_3) = true := beq_iff_eq.mpr c27
                              have c27b1 : (t133 != x14_3) = false := bne_eq_false_iff_eq.mpr c27
                              clear c27
                              by_cases c28 : (wrap64 ((a0.size : Int) + 1)) = 0
                              · rw [if_pos c28] at H
                                exact absurd H (by simp)
                              · rw [if_neg c28] at H
                                have c28b0 : ((wrap64 ((a0.size : Int) + 1)) == 0) = false := beq_eq_false_iff_ne.mpr c28
                                have c28b1 : ((wrap64 ((a0.size : Int) + 1)) != 0) = true := bne_iff_ne.mpr c28
                                have H' := Aside0.mk H
                                clear H
                                go_wp2_with (first | ((with_reducible refine gate_callee (f := 8) rfl ?_); refine goesL_ (some 76) rfl rfl Try.func8 (by kernel_rfl) rfl #[.string a0, .int .i64 x2_1, .int .i64 x3_1] rfl (by (try simp only [List.map_toArray, List.map_cons, List.map_nil]); first | done | rfl | (simp only [List.length_drop, List.length_take]; rfl)) ?_; (with_reducible refine (pos_At.calls kj15 a0 x2_1 x3_1 t133 t134 _ A25.out).mono ?_); rintro e w' ⟨rfl, ⟨nd, rfl⟩⟩; refine ⟨_, rfl, ?_⟩))
                                go_roundg kj15
                                case measure => have := HK1.out; have := HJ10.out; have := HK3.out; have := HJ15.out; omega
                                case rel => exact ⟨(Int.tmod (Go.bits .and .i64 x1_1 65535) (wrap64 ((a0.size : Int) + 1))), (Go.bits .and .i64 x2_1 7), (Go.bits .and .i64 x3_1 31), (wrap64 (x9_1 + 1)), (by first | rfl | (simp; done) | (simp [*]; done)), (by first | rfl | (simp; done) | (simp [*]; done)), (by first | rfl | (simp; done) | (simp [*]; done)), (by first | rfl | (simp; done) | (simp [*]; done)), H', ⟨by have := HK1.out; have := HJ10.out; have := HK3.out; have := HJ15.out; omega⟩, ⟨by repeat (first | (with_reducible first | exact HB.out | apply below_alloc | apply pw_below_drewN | apply below_drew1) | exact HB.out)⟩⟩
                            · rw [if_neg c27] at H
                              have c27b0 : (t133 == x14_3) = false := beq_eq_false_iff_ne.mpr c27
                              have c27b1 : (t133 != x14_3) = true := bne_iff_ne.mpr c27
                              obtain rfl := Option.some.inj H
                              go_wp2_with (first | ((with_reducible refine gate_callee (f := 8) rfl ?_); refine goesL_ (some 76) rfl rfl Try.func8 (by kernel_rfl) rfl #[.string a0, .int .i64 x2_1, .int .i64 x3_1] rfl (by (try simp only [List.map_toArray, List.map_cons, List.map_nil]); first | done | rfl | (simp only [List.length_drop, List.length_take]; rfl)) ?_; (with_reducible refine (pos_At.calls kj15 a0 x2_1 x3_1 t133 t134 _ A25.out).mono ?_); rintro e w' ⟨rfl, ⟨nd, rfl⟩⟩; refine ⟨_, rfl, ?_⟩))
                              go_ret
                              exact ⟨by first | rfl | (simp [errW_none, errW_some] <;> rfl) | (simp [*, errW_none, errW_some] <;> rfl), by repeat (first | (with_reducible first | exact HB.out | apply below_alloc | apply pw_below_drewN | apply below_drew1) | exact HB.out)⟩
        · rw [if_neg c8] at H
          have c8b0 : decide (x9_1 < 2) = false := decide_eq_false c8
          clear c8
          replace H := Option.bind_eq_some_iff.mp H
          obtain ⟨t126, A290, H⟩ := H
          replace H : (some t126) = some r := H
          have A29 := Aside0.mk A290
          clear A290
          obtain rfl := Option.some.inj H
          go_wp2_with (first | ((with_reducible refine gate_callee (f := 6) rfl ?_); refine goesL_ (some 97) rfl rfl Try.func6 (by kernel_rfl) rfl #[] rfl (by (try simp only [List.map_toArray, List.map_cons, List.map_nil]); first | done | rfl | (simp only [List.length_drop, List.length_take]; rfl)) ?_; (with_reducible refine (conchlaw2_awake.calls k1  t126 _ A29.out).mono ?_); rintro e w30 ⟨rfl, hb⟩; refine ⟨_, rfl, ?_⟩; have n0_ := Aside0.mk (below_step (by repeat (first | (with_reducible first | exact HB.out | apply below_alloc | apply pw_below_drewN | apply below_drew1) | exact HB.out)) hb); clear HB; have HB := n0_; clear n0_; (try clear hb); (try clear hb2); (try clear hk); (try clear hi)))
          go_ret
          exact ⟨by first | rfl | (simp [errW_none, errW_some] <;> rfl) | (simp [*, errW_none, errW_some] <;> rfl), by repeat (first | (with_reducible first | exact HB.out | apply below_alloc | apply pw_below_drewN | apply below_drew1) | exact HB.out)⟩

/-- THE ONE PURE STATEMENT of conchlaw2_PosTells: yours. -/
def conchlaw2_PosTells.Pure : Prop := ∀ (a0 : ByteArray) (a1 : Int) (a2 : Int) (a3 : Int), a0.size ≤ 140737488351232 → (Lit.int .i64 a1).wf = true → (Lit.int .i64 a2).wf = true → (Lit.int .i64 a3).wf = true → ∃ k, conchlaw2_PosTells.f k a0 a1 a2 a3 = some true
theorem conchlaw2_PosTells.walk (P : conchlaw2_PosTells.Pure) (a0 : ByteArray) (a1 : Int) (a2 : Int) (a3 : Int) (w : World) (w0 : a0.size ≤ 140737488351232) (w1 : (Lit.int .i64 a1).wf = true) (w2 : (Lit.int .i64 a2).wf = true) (w3 : (Lit.int .i64 a3).wf = true) :
    Calls Try.prog 4 #[.string a0, .int .i64 a1, .int .i64 a2, .int .i64 a3] w fun e w' => e = .returned (.bool true) ∧ Below w.heap.size w w' := by
  obtain ⟨k, h⟩ := P a0 a1 a2 a3 w0 w1 w2 w3
  refine (conchlaw2_PosTells.calls k a0 a1 a2 a3 true w h).mono ?_
  rintro e w' ⟨rfl, hd⟩
  exact ⟨rfl, hd⟩

end Go.Proofs.Ytlebdbbngliiaaa.PAll
