-- Written by a program of this work (wip/tools/gprint.py).
import Derived.Test.YtemdfhadijdddaaPAllx0
import Derived.Test.YtemdfhadijdddaaPAllx1
import Derived.Test.YtemdfhadijdddaaPAllx2
namespace Go.Proofs.Ytemdfhadijdddaa.PAll
open Go.RowKit Go.Proofs.YtemdfhadijdddaaW.PrintWords Go.Proofs.YtemdfhadijdddaaW.PrintLast Go.Proofs.YtemdfhadijdddaaW.PrintMore
attribute [local go_sem] max2_int min2_int max_two min_two max_three min_three max_four min_four   -- for this text's walks alone
set_option linter.unusedVariables false
set_option linter.unusedSimpArgs false

/-! ### conchlaw9_LexSkips: function 6 -/
mutual
def conchlaw9_LexSkips.j0 : Nat → List Int → ByteArray → ByteArray → Bool → Option (Bool)
  | 0, _, _, _, _ => none
  | k + 1, x0, x1, x2, x20 => if x20 = true then ((conchlaw9_awake.f k).bind fun t181 => (some t181)) else (conchlaw9_LexSkips.l0 k x0 x1 x2 (⟨#[]⟩ : ByteArray) 0)
def conchlaw9_LexSkips.j2 : Nat → ByteArray → ByteArray → ByteArray → Option (Bool)
  | 0, _, _, _ => none
  | k + 1, x1, x2, x7 => conchlaw9_LexSkips.l1 k x1 x2 x7 (⟨#[35]⟩ : ByteArray) 0
def conchlaw9_LexSkips.l1 : Nat → ByteArray → ByteArray → ByteArray → ByteArray → Int → Option (Bool)
  | 0, _, _, _, _, _ => none
  | k + 1, x1, x2, x7, x9, x10 => if x10 < (x1.size : Int) then (if 0 ≤ x10 then (if (bt x1 x10) = 10 then (conchlaw9_LexSkips.l1 k x1 x2 x7 x9 (wrap64 (x10 + 1))) else (if x10 ≤ (wrap64 (x10 + 1)) then (if (wrap64 (x10 + 1)) ≤ (x1.size : Int) then (if x9.size + (x1.extract (x10 : Int).toNat ((wrap64 (x10 + 1)) : Int).toNat).size ≤ 9223372036854775807 then (conchlaw9_LexSkips.l1 k x1 x2 x7 (x9 ++ (x1.extract (x10 : Int).toNat ((wrap64 (x10 + 1)) : Int).toNat)) (wrap64 (x10 + 1))) else (none)) else (none)) else (none))) else (none)) else (if x7.size + x9.size ≤ 9223372036854775807 then (if (x7 ++ x9).size + 1 ≤ 9223372036854775807 then (if ((x7 ++ x9) ++ (⟨#[10]⟩ : ByteArray)).size + x2.size ≤ 9223372036854775807 then ((lex_Skip.f k (((x7 ++ x9) ++ (⟨#[10]⟩ : ByteArray)) ++ x2) 0).bind fun t187 => (if x7.size + 1 ≤ 9223372036854775807 then (if (x7 ++ (⟨#[120]⟩ : ByteArray)).size + x2.size ≤ 9223372036854775807 then ((lex_Skip.f k ((x7 ++ (⟨#[120]⟩ : ByteArray)) ++ x2) 0).bind fun t188 => (if t187 = (wrap64 ((x7.size : Int) + (x9.size : Int))) then (if t188 = (x7.size : Int) then ((lex_Skip.f k x7 0).bind fun t189 => (if t189 = (x7.size : Int) then ((lex_Skip.f k x7 (-5)).bind fun t190 => (if t190 = (x7.size : Int) then ((lex_Skip.f k x7 4611686018427387904).bind fun t191 => (if t191 = (x7.size : Int) then ((conchlaw9_awake.f k).bind fun t192 => (some t192)) else (some false))) else (some false))) else (some false))) else (some false)) else (some false))) else (none)) else (none))) else (none)) else (none)) else (none))
def conchlaw9_LexSkips.l0 : Nat → List Int → ByteArray → ByteArray → ByteArray → Int → Option (Bool)
  | 0, _, _, _, _, _ => none
  | k + 1, x0, x1, x2, x7, x8 => if x8 < (x0.length : Int) then (if x8 < 20 then ((some (([(⟨#[32]⟩ : ByteArray), (⟨#[9]⟩ : ByteArray), (⟨#[92, 10]⟩ : ByteArray)] : List ByteArray) : List ByteArray)).bind fun y182 => (if 0 ≤ x8 then (if 0 ≤ (Int.tmod (Go.bits .and .i64 (rd x0 x8) 255) 3) then (if (Int.tmod (Go.bits .and .i64 (rd x0 x8) 255) 3) < (y182.length : Int) then (if x7.size + (rdOf ByteArray.empty y182 (Int.tmod (Go.bits .and .i64 (rd x0 x8) 255) 3)).size ≤ 9223372036854775807 then (conchlaw9_LexSkips.l0 k x0 x1 x2 (x7 ++ (rdOf ByteArray.empty y182 (Int.tmod (Go.bits .and .i64 (rd x0 x8) 255) 3))) (wrap64 (x8 + 1))) else (none)) else (none)) else (none)) else (none))) else (conchlaw9_LexSkips.j2 k x1 x2 x7)) else (conchlaw9_LexSkips.j2 k x1 x2 x7)
end
def conchlaw9_LexSkips.f (k : Nat) (l0 : List Int) (a1 : ByteArray) (a2 : ByteArray) : Option (Bool) := if (a1.size : Int) > 60 then (conchlaw9_LexSkips.j0 k l0 a1 a2 true) else (conchlaw9_LexSkips.j0 k l0 a1 a2 (decide ((a2.size : Int) > 60)))
theorem conchlaw9_LexSkips.mono_l : ∀ k, (∀ y0 y1 y2 y3, LeO (conchlaw9_LexSkips.j0 k y0 y1 y2 y3) (conchlaw9_LexSkips.j0 (k + 1) y0 y1 y2 y3)) ∧ (∀ y0 y1 y2, LeO (conchlaw9_LexSkips.j2 k y0 y1 y2) (conchlaw9_LexSkips.j2 (k + 1) y0 y1 y2)) ∧ (∀ y0 y1 y2 y3 y4, LeO (conchlaw9_LexSkips.l1 k y0 y1 y2 y3 y4) (conchlaw9_LexSkips.l1 (k + 1) y0 y1 y2 y3 y4)) ∧ (∀ y0 y1 y2 y3 y4, LeO (conchlaw9_LexSkips.l0 k y0 y1 y2 y3 y4) (conchlaw9_LexSkips.l0 (k + 1) y0 y1 y2 y3 y4))
  | 0 => ⟨fun _ _ _ _ r h => by simp [conchlaw9_LexSkips.j0] at h, fun _ _ _ r h => by simp [conchlaw9_LexSkips.j2] at h, fun _ _ _ _ _ r h => by simp [conchlaw9_LexSkips.l1] at h, fun _ _ _ _ _ r h => by simp [conchlaw9_LexSkips.l0] at h⟩
  | k + 1 => by
    obtain ⟨ih0, ih1, ih2, ih3⟩ := conchlaw9_LexSkips.mono_l k
    refine ⟨?_, ?_, ?_, ?_⟩
    · intro y0 y1 y2 y3
      unfold conchlaw9_LexSkips.j0
      repeat' first
      | (with_reducible exact ih0 _ _ _ _)
      | (with_reducible exact ih1 _ _ _)
      | (with_reducible exact ih2 _ _ _ _ _)
      | (with_reducible exact ih3 _ _ _ _ _)
      | (with_reducible exact conchlaw9_awake.mono _)
      | (with_reducible exact lex_Skip.mono _ _ _)
      | (with_reducible exact LeO.refl _)
      | (with_reducible exact LeO.none _)
      | (with_reducible refine LeO.ite ?_ ?_)
      | (with_reducible refine LeO.bind ?_ (fun _ => ?_))
      | exact ih0 _ _ _ _
      | exact ih1 _ _ _
      | exact ih2 _ _ _ _ _
      | exact ih3 _ _ _ _ _
      | exact conchlaw9_awake.mono _
      | exact lex_Skip.mono _ _ _
      | exact LeO.none _
      | refine LeO.ite ?_ ?_
      | refine LeO.bind ?_ (fun _ => ?_)
    · intro y0 y1 y2
      unfold conchlaw9_LexSkips.j2
      repeat' first
      | (with_reducible exact ih0 _ _ _ _)
      | (with_reducible exact ih1 _ _ _)
      | (with_reducible exact ih2 _ _ _ _ _)
      | (with_reducible exact ih3 _ _ _ _ _)
      | (with_reducible exact conchlaw9_awake.mono _)
      | (with_reducible exact lex_Skip.mono _ _ _)
      | (with_reducible exact LeO.refl _)
      | (with_reducible exact LeO.none _)
      | (with_reducible refine LeO.ite ?_ ?_)
      | (with_reducible refine LeO.bind ?_ (fun _ => ?_))
      | exact ih0 _ _ _ _
      | exact ih1 _ _ _
      | exact ih2 _ _ _ _ _
      | exact ih3 _ _ _ _ _
      | exact conchlaw9_awake.mono _
      | exact lex_Skip.mono _ _ _
      | exact LeO.none _
      | refine LeO.ite ?_ ?_
      | refine LeO.bind ?_ (fun _ => ?_)
    · intro y0 y1 y2 y3 y4
      unfold conchlaw9_LexSkips.l1
      repeat' first
      | (with_reducible exact ih0 _ _ _ _)
      | (with_reducible exact ih1 _ _ _)
      | (with_reducible exact ih2 _ _ _ _ _)
      | (with_reducible exact ih3 _ _ _ _ _)
      | (with_reducible exact conchlaw9_awake.mono _)
      | (with_reducible exact lex_Skip.mono _ _ _)
      | (with_reducible exact LeO.refl _)
      | (with_reducible exact LeO.none _)
      | (with_reducible refine LeO.ite ?_ ?_)
      | (with_reducible refine LeO.bind ?_ (fun _ => ?_))
      | exact ih0 _ _ _ _
      | exact ih1 _ _ _
      | exact ih2 _ _ _ _ _
      | exact ih3 _ _ _ _ _
      | exact conchlaw9_awake.mono _
      | exact lex_Skip.mono _ _ _
      | exact LeO.none _
      | refine LeO.ite ?_ ?_
      | refine LeO.bind ?_ (fun _ => ?_)
    · intro y0 y1 y2 y3 y4
      unfold conchlaw9_LexSkips.l0
      repeat' first
      | (with_reducible exact ih0 _ _ _ _)
      | (with_reducible exact ih1 _ _ _)
      | (with_reducible exact ih2 _ _ _ _ _)
      | (with_reducible exact ih3 _ _ _ _ _)
      | (with_reducible exact conchlaw9_awake.mono _)
      | (with_reducible exact lex_Skip.mono _ _ _)
      | (with_reducible exact LeO.refl _)
      | (with_reducible exact LeO.none _)
      | (with_reducible refine LeO.ite ?_ ?_)
      | (with_reducible refine LeO.bind ?_ (fun _ => ?_))
      | exact ih0 _ _ _ _
      | exact ih1 _ _ _
      | exact ih2 _ _ _ _ _
      | exact ih3 _ _ _ _ _
      | exact conchlaw9_awake.mono _
      | exact lex_Skip.mono _ _ _
      | exact LeO.none _
      | refine LeO.ite ?_ ?_
      | refine LeO.bind ?_ (fun _ => ?_)
theorem conchlaw9_LexSkips.mono : ∀ a0 a1 a2 k, LeO (conchlaw9_LexSkips.f k a0 a1 a2) (conchlaw9_LexSkips.f (k + 1) a0 a1 a2) := by
  intro a0 a1 a2 k
  obtain ⟨ih0, ih1, ih2, ih3⟩ := conchlaw9_LexSkips.mono_l k
  unfold conchlaw9_LexSkips.f
  repeat' first
      | (with_reducible exact ih0 _ _ _ _)
      | (with_reducible exact ih1 _ _ _)
      | (with_reducible exact ih2 _ _ _ _ _)
      | (with_reducible exact ih3 _ _ _ _ _)
      | (with_reducible exact conchlaw9_awake.mono _)
      | (with_reducible exact lex_Skip.mono _ _ _)
      | (with_reducible exact LeO.refl _)
      | (with_reducible exact LeO.none _)
      | (with_reducible refine LeO.ite ?_ ?_)
      | (with_reducible refine LeO.bind ?_ (fun _ => ?_))
      | exact ih0 _ _ _ _
      | exact ih1 _ _ _
      | exact ih2 _ _ _ _ _
      | exact ih3 _ _ _ _ _
      | exact conchlaw9_awake.mono _
      | exact lex_Skip.mono _ _ _
      | exact LeO.none _
      | refine LeO.ite ?_ ?_
      | refine LeO.bind ?_ (fun _ => ?_)
set_option maxHeartbeats 8000000 in
set_option maxRecDepth 100000 in
theorem conchlaw9_LexSkips.calls (k : Nat) (A0 : Option Addr) (c0 : Nat) (l0 : List Int) (a1 : ByteArray) (a2 : ByteArray) (r : Bool) (w : World) (hr0 : Kd.C (Kd.int .i64) w A0 l0.length l0) (hc0 : l0.length ≤ c0) (h : conchlaw9_LexSkips.f k l0 a1 a2 = some r) :
    Calls Try.prog 6 #[.slice A0 l0.length c0, .string a1, .string a2] w fun e w' => e = .returned (.bool r) ∧ Below w.heap.size w w' := by
  have HR0 := Aside0.mk hr0
  have HC0 := Aside0.mk hc0
  clear hr0 hc0
  have HB := Aside0.mk (Below.refl w.heap.size w)
  have H : (if (a1.size : Int) > 60 then (conchlaw9_LexSkips.j0 k l0 a1 a2 true) else (conchlaw9_LexSkips.j0 k l0 a1 a2 (decide ((a2.size : Int) > 60)))) = some r := h
  clear h
  have HC4 := Aside0.mk H
  clear H
  go_enter Try.func6, Try.ntmps6
  go_upto_region 1 with (fail)
  go_cut [20] (fun v20 wc => ∃ (kq : Nat) (x20_3 : Bool), v20 = .bool x20_3 ∧ Aside0 (conchlaw9_LexSkips.j0 kq l0 a1 a2 x20_3 = some r) ∧ Aside0 (kq ≤ k) ∧ Aside0 (Below w.heap.size w wc))
  case first =>
    have H := HC4.out
    clear HC4
    by_cases c5 : (a1.size : Int) > 60
    · rw [if_pos c5] at H
      have c5b0 : decide (60 < (a1.size : Int)) = true := decide_eq_true c5
      have c5b1 : decide (60 < a1.size) = true := decide_eq_true (by omega)
      clear c5
      (first | rw [c5b0] | (simp only [i64_w, i32_w]; rw [c5b0]) | skip)
      have H' := Aside0.mk H
      clear H
      go_wp2
      go_meet
      case rel => exact ⟨_, (true), (by first | rfl | (simp; done) | (simp [*]; done)), H', ⟨by first | omega | exact Nat.le_refl _⟩, ⟨by repeat (first | (with_reducible first | exact HB.out | apply below_alloc | apply pw_below_drewN | apply below_drew1) | exact HB.out)⟩⟩
    · rw [if_neg c5] at H
      have c5b0 : decide (60 < (a1.size : Int)) = false := decide_eq_false c5
      have c5b1 : decide (60 < a1.size) = false := decide_eq_false (by omega)
      clear c5
      (first | rw [c5b0] | (simp only [i64_w, i32_w]; rw [c5b0]) | skip)
      have H' := Aside0.mk H
      clear H
      go_wp2
      go_meet
      case rel => exact ⟨_, (decide ((a2.size : Int) > 60)), (by first | rfl | (simp; done) | (simp [*]; done)), H', ⟨by first | omega | exact Nat.le_refl _⟩, ⟨by repeat (first | (with_reducible first | exact HB.out | apply below_alloc | apply pw_below_drewN | apply below_drew1) | exact HB.out)⟩⟩
  case rest =>
    clear HC4
    try clear p2
    try clear c5
    try clear c5b0
    try clear c5b1
    obtain ⟨kq, x20_3, rfl, HA, HJ3, HB⟩ := hcut
    cases kq with
    | zero => exact absurd HA.out (by simp [conchlaw9_LexSkips.j0])
    | succ kj3 =>
      have H := HA.out
      clear HA
      simp only [conchlaw9_LexSkips.j0] at H
      by_cases c6 : x20_3 = true
      · subst c6
        have H1 : ((conchlaw9_awake.f kj3).bind fun t181 => (some t181)) = some r := by rw [if_pos rfl] at H; exact H
        clear H
        have H := H1
        clear H1
        replace H := Option.bind_eq_some_iff.mp H
        obtain ⟨t181, A70, H⟩ := H
        replace H : (some t181) = some r := H
        have A7 := Aside0.mk A70
        clear A70
        obtain rfl := Option.some.inj H
        go_wp2_with (first | ((with_reducible refine gate_callee (f := 10) rfl ?_); refine goesL_ (some 21) rfl rfl Try.func10 (by kernel_rfl) rfl #[] rfl (by (try simp only [List.map_toArray, List.map_cons, List.map_nil]); first | done | rfl | (simp only [List.length_drop, List.length_take]; rfl)) ?_; (with_reducible refine (conchlaw9_awake.calls kj3  t181 _ A7.out).mono ?_); rintro e w8 ⟨rfl, hb⟩; refine ⟨_, rfl, ?_⟩; have n0_ := Aside0.mk (below_step (by repeat (first | (with_reducible first | exact HB.out | apply below_alloc | apply pw_below_drewN | apply below_drew1) | exact HB.out)) hb); clear HB; have HB := n0_; clear n0_; (try clear hb); (try clear hb2); (try clear hk); (try clear hi)))
        go_ret
        exact ⟨by first | rfl | (simp [errW_none, errW_some] <;> rfl) | (simp [*, errW_none, errW_some] <;> rfl), by repeat (first | (with_reducible first | exact HB.out | apply below_alloc | apply pw_below_drewN | apply below_drew1) | exact HB.out)⟩
      · replace c6 := Bool.eq_false_iff.mpr c6
        subst c6
        have H1 : (conchlaw9_LexSkips.l0 kj3 l0 a1 a2 (⟨#[]⟩ : ByteArray) 0) = some r := by rw [if_neg (show ¬ (false = true) by decide)] at H; exact H
        clear H
        have H := H1
        clear H1
        have HC9 := Aside0.mk H
        clear H
        go_upto_block 0 with (fail)
        go_cut [7] (fun v7 wc => ∃ (kq : Nat) (x7_8 : ByteArray), v7 = .string x7_8 ∧ Aside0 (conchlaw9_LexSkips.j2 kq a1 a2 x7_8 = some r) ∧ Aside0 (kq ≤ kj3) ∧ Aside0 (Below w.heap.size w wc))
        case first =>
          have H := HC9.out
          clear HC9
          have H' := Aside0.mk H
          clear H
          go_wp2
          go_loopg [7, 8] kj3 (fun kq v7 v8 w' => ∃ (x7_2 : ByteArray) (x8_2 : Int), v7 = .string x7_2 ∧ v8 = .int .i64 x8_2 ∧ Aside0 (conchlaw9_LexSkips.l0 kq l0 a1 a2 x7_2 x8_2 = some r) ∧ Aside0 (kq ≤ kj3) ∧ Aside0 (Below w.heap.size w w'))
          case atStart => exact ⟨((⟨#[]⟩ : ByteArray)), (0), (by first | rfl | (simp; done) | (simp [*]; done)), (by first | rfl | (simp; done) | (simp [*]; done)), H', ⟨Nat.le_refl _⟩, ⟨by repeat (first | (with_reducible first | exact HB.out | apply below_alloc | apply pw_below_drewN | apply below_drew1) | exact HB.out)⟩⟩
          case round =>
            clear H'
            try clear c1
            try clear p2
            try clear c5
            try clear c5b0
            try clear c5b1
            try clear c6
            try clear p2
            obtain ⟨x7_2, x8_2, rfl, rfl, HA, HK2, HB⟩ := hrel
            cases gk with
            | zero => exact absurd HA.out (by simp [conchlaw9_LexSkips.l0])
            | succ k2 =>
              have H := HA.out
              clear HA
              simp only [conchlaw9_LexSkips.l0] at H
              by_cases c10 : x8_2 < (l0.length : Int)
              · rw [if_pos c10] at H
                have c10b0 : decide (x8_2 < (l0.length : Int)) = true := decide_eq_true c10
                clear c10
                (first | rw [c10b0] | (simp only [i64_w, i32_w]; rw [c10b0]) | skip)
                by_cases c11 : x8_2 < 20
                · rw [if_pos c11] at H
                  have c11b0 : decide (x8_2 < 20) = true := decide_eq_true c11
                  clear c11
                  obtain ⟨y182, hy182⟩ : ∃ y_ : List ByteArray, y_ = (([(⟨#[32]⟩ : ByteArray), (⟨#[9]⟩ : ByteArray), (⟨#[92, 10]⟩ : ByteArray)] : List ByteArray)) := ⟨_, rfl⟩
                  replace H : (if 0 ≤ x8_2 then (if 0 ≤ (Int.tmod (Go.bits .and .i64 (rd l0 x8_2) 255) 3) then (if (Int.tmod (Go.bits .and .i64 (rd l0 x8_2) 255) 3) < (y182.length : Int) then (if x7_2.size + (rdOf ByteArray.empty y182 (Int.tmod (Go.bits .and .i64 (rd l0 x8_2) 255) 3)).size ≤ 9223372036854775807 then (conchlaw9_LexSkips.l0 k2 l0 a1 a2 (x7_2 ++ (rdOf ByteArray.empty y182 (Int.tmod (Go.bits .and .i64 (rd l0 x8_2) 255) 3))) (wrap64 (x8_2 + 1))) else (none)) else (none)) else (none)) else (none)) = some r := by first | (rw [hy182]; with_reducible exact H) | (have H2_ := (Option.bind_some _ _).symm.trans H; rw [hy182]; with_reducible exact H2_) | (have H2_ := (Option.bind_some _ _).symm.trans H; with_reducible exact H2_) | with_reducible exact H | (rw [hy182]; exact H) | exact H
                  have Ny182 := Aside0.mk hy182
                  clear hy182
                  by_cases c12 : 0 ≤ x8_2
                  · rw [if_pos c12] at H
                    have c12b0 : decide (0 ≤ x8_2) = true := decide_eq_true c12
                    clear c12
                    obtain ⟨ji13, hji13⟩ : ∃ j_ : Int, (Int.tmod (Go.bits .and .i64 (rd l0 x8_2) 255) 3) = j_ := ⟨_, rfl⟩
                    replace H : (if 0 ≤ (ji13) then (if (ji13) < (y182.length : Int) then (if x7_2.size + (rdOf ByteArray.empty y182 (ji13)).size ≤ 9223372036854775807 then (conchlaw9_LexSkips.l0 k2 l0 a1 a2 (x7_2 ++ (rdOf ByteArray.empty y182 (ji13))) (wrap64 (x8_2 + 1))) else (none)) else (none)) else (none)) = some r := by first | (rw [hji13] at H; exact H) | (simp only [hji13] at H ⊢; exact H)
                    by_cases c14 : 0 ≤ (ji13)
                    · rw [if_pos c14] at H
                      have c14b0 : decide (0 ≤ (ji13)) = true := decide_eq_true c14
                      clear c14
                      by_cases c15 : (ji13) < (y182.length : Int)
                      · rw [if_pos c15] at H
                        have c15b0 : decide ((ji13) < (y182.length : Int)) = true := decide_eq_true c15
                        clear c15
                        by_cases c16 : x7_2.size + (rdOf ByteArray.empty y182 (ji13)).size ≤ 9223372036854775807
                        · rw [if_pos c16] at H
                          have c16b0 := eq_true c16
                          have c16b1 : decide (x7_2.size + (rdOf ByteArray.empty y182 (ji13)).size ≤ 9223372036854775807) = true := decide_eq_true c16
                          try have c16b2 : (9223372036854775807 < x7_2.size + (rdOf ByteArray.empty y182 (ji13)).size) = False := eq_false (Nat.not_lt.2 c16)
                          have H' := Aside0.mk H
                          clear H
                          go_wp2_with (first | ((with_reducible refine gate_dst (N := 33) rfl ?_); (try (refine gate_guard (by rfl) ?_; dsimp only)); refine Kd.R_lit Kd.string _ 9 ?hg (N := 33) ?hd (xs := ([(⟨#[32]⟩ : ByteArray), (⟨#[9]⟩ : ByteArray), (⟨#[92, 10]⟩ : ByteArray)] : List ByteArray)) (inner := [.string (⟨#[32]⟩ : ByteArray), .string (⟨#[9]⟩ : ByteArray), .string (⟨#[92, 10]⟩ : ByteArray)]) (ok := fun _ => True) (okp := fun _ => True) ?hr ?hp (fun _ hk => hk) trivial (Below.refl _ _) (Nat.le_refl _) (by simp) ?_; (case hd => rfl); (case hg => rfl); (case hr => first | (go_simp; done) | (go_simp; rfl)); (case hp => exact (Reps.one (show Kd.M Kd.string _ _ _ (⟨#[32]⟩ : ByteArray) [.string (⟨#[32]⟩ : ByteArray)] from rfl) (Reps.one (show Kd.M Kd.string _ _ _ (⟨#[9]⟩ : ByteArray) [.string (⟨#[9]⟩ : ByteArray)] from rfl) (Reps.one (show Kd.M Kd.string _ _ _ (⟨#[92, 10]⟩ : ByteArray) [.string (⟨#[92, 10]⟩ : ByteArray)] from rfl) (Reps.none _ _))))); intro v183 w17 ho18 hb hg_ hnew_; clear hg_ hnew_; (first | rw [← Ny182.out] at ho18 | (simp only [Int.reduceToNat] at ho18; rw [← Ny182.out] at ho18)); have n0_ := Aside0.mk (Kd.R_lower ho18 (below_size (by repeat (first | (with_reducible first | exact HB.out | apply below_alloc | apply pw_below_drewN | apply below_drew1) | exact HB.out)))); have n1_ := Aside0.mk (below_step (by repeat (first | (with_reducible first | exact HB.out | apply below_alloc | apply pw_below_drewN | apply below_drew1) | exact HB.out)) hb); clear HB; have HO184 := n0_; have HB := n1_; clear n0_ n1_; clear hb ho18; have p185 : 0 ≤ (x8_2 : Int) := of_decide_eq_true (by first | (with_reducible assumption) | assumption); have q185 : x8_2 < (l0.length : Int) := of_decide_eq_true (by first | (with_reducible assumption) | assumption); obtain ⟨ad185, e185, hx185_0⟩ := Kd.at_int HR0.out x8_2 p185 q185; cases e185; replace hx185_0 := (HB.out.cell (World.block_lt_of_cell? w _ hx185_0)).trans hx185_0; replace p185 := eq_true p185; replace q185 := eq_true q185; obtain ⟨Ao19, co19, eo19⟩ := Kd.R_slice HO184.out; subst eo19; have p186 : 0 ≤ ((ji13) : Int) := of_decide_eq_true (by first | (with_reducible assumption) | assumption); have q186 : (ji13) < (y182.length : Int) := of_decide_eq_true (by first | (with_reducible assumption) | assumption); obtain ⟨ad186, e186, hx186_0⟩ := Kd.at_string (Kd.R_reads' HO184.out).2.2 (ji13) p186 q186; cases e186; replace p186 := eq_true p186; replace q186 := eq_true q186))
                          go_roundg k2
                          case measure => have := HJ3.out; have := HK2.out; omega
                          case rel => exact ⟨(x7_2 ++ (rdOf ByteArray.empty y182 (ji13))), (wrap64 (x8_2 + 1)), (by first | rfl | (simp; done) | (simp only [← hji13] <;> (first | rfl | simp)) | (simp [*]; done)), (by first | rfl | (simp; done) | (simp [*]; done)), H', ⟨by have := HJ3.out; have := HK2.out; omega⟩, ⟨by repeat (first | (with_reducible first | exact HB.out | apply below_alloc | apply pw_below_drewN | apply below_drew1) | exact HB.out)⟩⟩
                        · rw [if_neg c16] at H
                          exact absurd H (by simp)
                      · rw [if_neg c15] at H
                        exact absurd H (by simp)
                    · rw [if_neg c14] at H
                      exact absurd H (by simp)
                  · rw [if_neg c12] at H
                    exact absurd H (by simp)
                · rw [if_neg c11] at H
                  have c11b0 : decide (x8_2 < 20) = false := decide_eq_false c11
                  clear c11
                  have H' := Aside0.mk H
                  clear H
                  go_wp2
                  go_meet
                  case rel => exact ⟨_, (x7_2), (by first | rfl | (simp; done) | (simp [*]; done)), H', ⟨by have := HJ3.out; have := HK2.out; first | omega | exact Nat.le_refl _⟩, ⟨by repeat (first | (with_reducible first | exact HB.out | apply below_alloc | apply pw_below_drewN | apply below_drew1) | exact HB.out)⟩⟩
              · rw [if_neg c10] at H
                have c10b0 : decide (x8_2 < (l0.length : Int)) = false := decide_eq_false c10
                clear c10
                (first | rw [c10b0] | (simp only [i64_w, i32_w]; rw [c10b0]) | skip)
                have H' := Aside0.mk H
                clear H
                go_wp2
                go_meet
                case rel => exact ⟨_, (x7_2), (by first | rfl | (simp; done) | (simp [*]; done)), H', ⟨by have := HJ3.out; have := HK2.out; first | omega | exact Nat.le_refl _⟩, ⟨by repeat (first | (with_reducible first | exact HB.out | apply below_alloc | apply pw_below_drewN | apply below_drew1) | exact HB.out)⟩⟩
        case rest =>
          clear HC9
          try clear c1
          try clear p1
          try clear q1
          try clear hx1
          try clear p2
          try clear c5
          try clear c5b0
          try clear c5b1
          try clear c6
          try clear p6
          try clear c10
          try clear c10b0
          try clear c11
          try clear c11b0
          try clear c12
          try clear c12b0
          try clear c14
          try clear c14b0
          try clear c15
          try clear c15b0
          try clear c16
          try clear c16b0
          try clear c16b1
          try clear c16b2
          try clear p18
          try clear q18
          try clear hx18
          try clear hx185_0
          try clear hx186_0
          try clear p185
          try clear p186
          try clear p2
          try clear q185
          try clear q186
          obtain ⟨kq, x7_8, rfl, HA, HJ8, HB⟩ := hcut
          cases kq with
          | zero => exact absurd HA.out (by simp [conchlaw9_LexSkips.j2])
          | succ kj8 =>
            have H := HA.out
            clear HA
            simp only [conchlaw9_LexSkips.j2] at H
            have H' := Aside0.mk H
            clear H
            go_wp2
            go_loopg [9, 10] kj8 (fun kq v9 v10 w' => ∃ (x9_3 : ByteArray) (x10_3 : Int), v9 = .string x9_3 ∧ v10 = .int .i64 x10_3 ∧ Aside0 (conchlaw9_LexSkips.l1 kq a1 a2 x7_8 x9_3 x10_3 = some r) ∧ Aside0 (kq ≤ kj8) ∧ Aside0 (Below w.heap.size w w'))
            case atStart => exact ⟨((⟨#[35]⟩ : ByteArray)), (0), (by first | rfl | (simp; done) | (simp [*]; done)), (by first | rfl | (simp; done) | (simp [*]; done)), H', ⟨Nat.le_refl _⟩, ⟨by repeat (first | (with_reducible first | exact HB.out | apply below_alloc | apply pw_below_drewN | apply below_drew1) | exact HB.out)⟩⟩
            case round =>
              clear H'
              try clear c1
              try clear p1
              try clear q1
              try clear hx1
              try clear p2
              try clear c5
              try clear c5b0
              try clear c5b1
              try clear c6
              try clear p6
              try clear c10
              try clear c10b0
              try clear c11
              try clear c11b0
              try clear c12
              try clear c12b0
              try clear c14
              try clear c14b0
              try clear c15
              try clear c15b0
              try clear c16
              try clear c16b0
              try clear c16b1
              try clear c16b2
              try clear p18
              try clear q18
              try clear hx18
              try clear hx185_0
              try clear hx186_0
              try clear p1
              try clear p18
              try clear p185
              try clear p186
              try clear p2
              try clear p6
              try clear q1
              try clear q18
              try clear q185
              try clear q186
              obtain ⟨x9_3, x10_3, rfl, rfl, HA, HK3, HB⟩ := hrel
              cases gk with
              | zero => exact absurd HA.out (by simp [conchlaw9_LexSkips.l1])
              | succ k3 =>
                have H := HA.out
                clear HA
                simp only [conchlaw9_LexSkips.l1] at H
                by_cases c20 : x10_3 < (a1.size : Int)
                · rw [if_pos c20] at H
                  have c20b0 : decide (x10_3 < (a1.size : Int)) = true := decide_eq_true c20
                  clear c20
                  by_cases c21 : 0 ≤ x10_3
                  · rw [if_pos c21] at H
                    have c21b0 : decide (0 ≤ x10_3) = true := decide_eq_true c21
                    clear c21
                    by_cases c23 : (bt a1 x10_3) = 10
                    · rw [if_pos c23] at H
                      have c23b0 : ((bt a1 x10_3) == 10) = true := beq_iff_eq.mpr c23
                      have c23b1 : ((bt a1 x10_3) != 10) = false := bne_eq_false_iff_eq.mpr c23
                      clear c23
                      have H' := Aside0.mk H
                      clear H
                      have p22 : 0 ≤ (x10_3 : Int) := of_decide_eq_true (by first | (with_reducible assumption) | assumption)
                      have q22 : x10_3 < (a1.size : Int) := of_decide_eq_true (by first | (with_reducible assumption) | assumption)
                      have hx22 := bt_at a1 x10_3
                      replace p22 := eq_true p22
                      replace q22 := eq_true q22
                      go_wp2
                      go_roundg k3
                      case measure => have := HJ3.out; have := HJ8.out; have := HK3.out; omega
                      case rel => exact ⟨(x9_3), (wrap64 (x10_3 + 1)), (by first | rfl | (simp; done) | (simp [*]; done)), (by first | rfl | (simp; done) | (simp [*]; done)), H', ⟨by have := HJ3.out; have := HJ8.out; have := HK3.out; omega⟩, ⟨by repeat (first | (with_reducible first | exact HB.out | apply below_alloc | apply pw_below_drewN | apply below_drew1) | exact HB.out)⟩⟩
                    · rw [if_neg c23] at H
                      have c23b0 : ((bt a1 x10_3) == 10) = false := beq_eq_false_iff_ne.mpr c23
                      have c23b1 : ((bt a1 x10_3) != 10) = true := bne_iff_ne.mpr c23
                      have c24b0 := eq_true (of_decide_eq_true (by first | (with_reducible assumption) | assumption) : 0 ≤ x10_3)
                      by_cases c25 : x10_3 ≤ (wrap64 (x10_3 + 1))
                      · rw [if_pos c25] at H
                        have c25b0 := eq_true c25
                        have c25b1 : decide (x10_3 ≤ (wrap64 (x10_3 + 1))) = true := decide_eq_true c25
                        try (have c25b1w := c25b1; rw [show wrap64 (x10_3 + 1) = x10_3 + 1 from by unfold wrap64; omega] at c25b1w)
                        by_cases c26 : (wrap64 (x10_3 + 1)) ≤ (a1.size : Int)
                        · rw [if_pos c26] at H
                          have c26b0 := eq_true c26
                          have c26b1 : decide ((wrap64 (x10_3 + 1)) ≤ (a1.size : Int)) = true := decide_eq_true c26
                          try (have c26b1w := c26b1; rw [show wrap64 (x10_3 + 1) = x10_3 + 1 from by unfold wrap64; omega] at c26b1w)
                          by_cases c27 : x9_3.size + (a1.extract (x10_3 : Int).toNat ((wrap64 (x10_3 + 1)) : Int).toNat).size ≤ 9223372036854775807
                          · rw [if_pos c27] at H
                            have c27b0 := eq_true c27
                            have c27b1 : decide (x9_3.size + (a1.extract (x10_3 : Int).toNat ((wrap64 (x10_3 + 1)) : Int).toNat).size ≤ 9223372036854775807) = true := decide_eq_true c27
                            try (have c27b1w := c27b1; rw [show wrap64 (x10_3 + 1) = x10_3 + 1 from by unfold wrap64; omega] at c27b1w)
                            try have c27b2 : (9223372036854775807 < x9_3.size + (a1.extract (x10_3 : Int).toNat ((wrap64 (x10_3 + 1)) : Int).toNat).size) = False := eq_false (Nat.not_lt.2 c27)
                            try (have c27b2w := c27b2; rw [show wrap64 (x10_3 + 1) = x10_3 + 1 from by unfold wrap64; omega] at c27b2w)
                            try have c27b9 : (9223372036854775807 < x9_3.size + (a1.extract (x10_3 : Int).toNat ((wrap64 (x10_3 + 1)) : Int).toNat).size) = False := eq_false (by have h_ := c27; simp only [ByteArray.size_append, ByteArray.size_extract, Nat.min_self] at h_; first | omega | (simp at h_; omega))
                            try (have c27b9w := c27b9; rw [show wrap64 (x10_3 + 1) = x10_3 + 1 from by unfold wrap64; omega] at c27b9w)
                            have H' := Aside0.mk H
                            clear H
                            have p22 : 0 ≤ (x10_3 : Int) := of_decide_eq_true (by first | (with_reducible assumption) | assumption)
                            have q22 : x10_3 < (a1.size : Int) := of_decide_eq_true (by first | (with_reducible assumption) | assumption)
                            have hx22 := bt_at a1 x10_3
                            replace p22 := eq_true p22
                            replace q22 := eq_true q22
                            go_wp2
                            go_roundg k3
                            case measure => have := HJ3.out; have := HJ8.out; have := HK3.out; omega
                            case rel => exact ⟨(x9_3 ++ (a1.extract (x10_3 : Int).toNat ((wrap64 (x10_3 + 1)) : Int).toNat)), (wrap64 (x10_3 + 1)), (by first | rfl | (simp; done) | (simp [*]; done)), (by first | rfl | (simp; done) | (simp [*]; done)), H', ⟨by have := HJ3.out; have := HJ8.out; have := HK3.out; omega⟩, ⟨by repeat (first | (with_reducible first | exact HB.out | apply below_alloc | apply pw_below_drewN | apply below_drew1) | exact HB.out)⟩⟩
                          · rw [if_neg c27] at H
                            exact absurd H (by simp)
                        · rw [if_neg c26] at H
                          exact absurd H (by simp)
                      · rw [if_neg c25] at H
                        exact absurd H (by simp)
                  · rw [if_neg c21] at H
                    exact absurd H (by simp)
                · rw [if_neg c20] at H
                  have c20b0 : decide (x10_3 < (a1.size : Int)) = false := decide_eq_false c20
                  clear c20
                  by_cases c28 : x7_8.size + x9_3.size ≤ 9223372036854775807
                  · rw [if_pos c28] at H
                    have c28b0 := eq_true c28
                    have c28b1 : decide (x7_8.size + x9_3.size ≤ 9223372036854775807) = true := decide_eq_true c28
                    try have c28b2 : (9223372036854775807 < x7_8.size + x9_3.size) = False := eq_false (Nat.not_lt.2 c28)
                    by_cases c29 : (x7_8 ++ x9_3).size + 1 ≤ 9223372036854775807
                    · rw [if_pos c29] at H
                      have c29b0 := eq_true c29
                      have c29b1 : decide ((x7_8 ++ x9_3).size + 1 ≤ 9223372036854775807) = true := decide_eq_true c29
                      try have c29b2 : (9223372036854775807 < (x7_8 ++ x9_3).size + 1) = False := eq_false (Nat.not_lt.2 c29)
                      try have c29b9 : (9223372036854775807 < x7_8.size + x9_3.size + 1) = False := eq_false (by have h_ := c29; simp only [ByteArray.size_append, ByteArray.size_extract, Nat.min_self] at h_; first | omega | (simp at h_; omega))
                      by_cases c30 : ((x7_8 ++ x9_3) ++ (⟨#[10]⟩ : ByteArray)).size + a2.size ≤ 9223372036854775807
                      · rw [if_pos c30] at H
                        have c30b0 := eq_true c30
                        have c30b1 : decide (((x7_8 ++ x9_3) ++ (⟨#[10]⟩ : ByteArray)).size + a2.size ≤ 9223372036854775807) = true := decide_eq_true c30
                        try have c30b2 : (9223372036854775807 < ((x7_8 ++ x9_3) ++ (⟨#[10]⟩ : ByteArray)).size + a2.size) = False := eq_false (Nat.not_lt.2 c30)
                        try have c30b9 : (9223372036854775807 < x7_8.size + x9_3.size + 1 + a2.size) = False := eq_false (by have h_ := c30; simp only [ByteArray.size_append, ByteArray.size_extract, Nat.min_self] at h_; first | omega | (simp at h_; omega))
                        replace H := Option.bind_eq_some_iff.mp H
                        obtain ⟨t187, A310, H⟩ := H
                        replace H : (if x7_8.size + 1 ≤ 9223372036854775807 then (if (x7_8 ++ (⟨#[120]⟩ : ByteArray)).size + a2.size ≤ 9223372036854775807 then ((lex_Skip.f k3 ((x7_8 ++ (⟨#[120]⟩ : ByteArray)) ++ a2) 0).bind fun t188 => (if t187 = (wrap64 ((x7_8.size : Int) + (x9_3.size : Int))) then (if t188 = (x7_8.size : Int) then ((lex_Skip.f k3 x7_8 0).bind fun t189 => (if t189 = (x7_8.size : Int) then ((lex_Skip.f k3 x7_8 (-5)).bind fun t190 => (if t190 = (x7_8.size : Int) then ((lex_Skip.f k3 x7_8 4611686018427387904).bind fun t191 => (if t191 = (x7_8.size : Int) then ((conchlaw9_awake.f k3).bind fun t192 => (some t192)) else (some false))) else (some false))) else (some false))) else (some false)) else (some false))) else (none)) else (none)) = some r := H
                        have A31 := Aside0.mk A310
                        clear A310
                        by_cases c32 : x7_8.size + 1 ≤ 9223372036854775807
                        · rw [if_pos c32] at H
                          have c32b0 := eq_true c32
                          have c32b1 : decide (x7_8.size + 1 ≤ 9223372036854775807) = true := decide_eq_true c32
                          try have c32b2 : (9223372036854775807 < x7_8.size + 1) = False := eq_false (Nat.not_lt.2 c32)
                          by_cases c33 : (x7_8 ++ (⟨#[120]⟩ : ByteArray)).size + a2.size ≤ 9223372036854775807
                          · rw [if_pos c33] at H
                            have c33b0 := eq_true c33
                            have c33b1 : decide ((x7_8 ++ (⟨#[120]⟩ : ByteArray)).size + a2.size ≤ 9223372036854775807) = true := decide_eq_true c33
                            try have c33b2 : (9223372036854775807 < (x7_8 ++ (⟨#[120]⟩ : ByteArray)).size + a2.size) = False := eq_false (Nat.not_lt.2 c33)
                            try have c33b9 : (9223372036854775807 < x7_8.size + 1 + a2.size) = False := eq_false (by have h_ := c33; simp only [ByteArray.size_append, ByteArray.size_extract, Nat.min_self] at h_; first | omega | (simp at h_; omega))
                            replace H := Option.bind_eq_some_iff.mp H
                            obtain ⟨t188, A340, H⟩ := H
                            replace H : (if t187 = (wrap64 ((x7_8.size : Int) + (x9_3.size : Int))) then (if t188 = (x7_8.size : Int) then ((lex_Skip.f k3 x7_8 0).bind fun t189 => (if t189 = (x7_8.size : Int) then ((lex_Skip.f k3 x7_8 (-5)).bind fun t190 => (if t190 = (x7_8.size : Int) then ((lex_Skip.f k3 x7_8 4611686018427387904).bind fun t191 => (if t191 = (x7_8.size : Int) then ((conchlaw9_awake.f k3).bind fun t192 => (some t192)) else (some false))) else (some false))) else (some false))) else (some false)) else (some false)) = some r := H
                            have A34 := Aside0.mk A340
                            clear A340
                            by_cases c35 : t187 = (wrap64 ((x7_8.size : Int) + (x9_3.size : Int)))
                            · rw [if_pos c35] at H
                              have c35b0 : (t187 == (wrap64 ((x7_8.size : Int) + (x9_3.size : Int)))) = true := beq_iff_eq.mpr c35
                              try (have c35b0w := c35b0; rw [show wrap64 ((x7_8.size : Int) + (x9_3.size : Int)) = (x7_8.size : Int) + (x9_3.size : Int) from by unfold wrap64; omega] at c35b0w)
                              have c35b1 : (t187 != (wrap64 ((x7_8.size : Int) + (x9_3.size : Int)))) = false := bne_eq_false_iff_eq.mpr c35
                              try (have c35b1w := c35b1; rw [show wrap64 ((x7_8.size : Int) + (x9_3.size : Int)) = (x7_8.size : Int) + (x9_3.size : Int) from by unfold wrap64; omega] at c35b1w)
                              clear c35
                              by_cases c36 : t188 = (x7_8.size : Int)
                              · rw [if_pos c36] at H
                                have c36b0 : (t188 == (x7_8.size : Int)) = true := beq_iff_eq.mpr c36
                                have c36b1 : (t188 != (x7_8.size : Int)) = false := bne_eq_false_iff_eq.mpr c36
                                clear c36
                                replace H := Option.bind_eq_some_iff.mp H
                                obtain ⟨t189, A370, H⟩ := H
                                replace H : (if t189 = (x7_8.size : Int) then ((lex_Skip.f k3 x7_8 (-5)).bind fun t190 => (if t190 = (x7_8.size : Int) then ((lex_Skip.f k3 x7_8 4611686018427387904).bind fun t191 => (if t191 = (x7_8.size : Int) then ((conchlaw9_awake.f k3).bind fun t192 => (some t192)) else (some false))) else (some false))) else (some false)) = some r := H
                                have A37 := Aside0.mk A370
                                clear A370
                                by_cases c38 : t189 = (x7_8.size : Int)
                                · rw [if_pos c38] at H
                                  have c38b0 : (t189 == (x7_8.size : Int)) = true := beq_iff_eq.mpr c38
                                  have c38b1 : (t189 != (x7_8.size : Int)) = false := bne_eq_false_iff_eq.mpr c38
                                  clear c38
                                  replace H := Option.bind_eq_some_iff.mp H
                                  obtain ⟨t190, A390, H⟩ := H
                                  replace H : (if t190 = (x7_8.size : Int) then ((lex_Skip.f k3 x7_8 4611686018427387904).bind fun t191 => (if t191 = (x7_8.size : Int) then ((conchlaw9_awake.f k3).bind fun t192 => (some t192)) else (some false))) else (some false)) = some r := H
                                  have A39 := Aside0.mk A390
                                  clear A390
                                  by_cases c40 : t190 = (x7_8.size : Int)
                                  · rw [if_pos c40] at H
                                    have c40b0 : (t190 == (x7_8.size : Int)) = true := beq_iff_eq.mpr c40
                                    have c40b1 : (t190 != (x7_8.size : Int)) = false := bne_eq_false_iff_eq.mpr c40
                                    clear c40
                                    replace H := Option.bind_eq_some_iff.mp H
                                    obtain ⟨t191, A410, H⟩ := H
                                    replace H : (if t191 = (x7_8.size : Int) then ((conchlaw9_awake.f k3).bind fun t192 => (some t192)) else (some false)) = some r := H
                                    have A41 := Aside0.mk A410
                                    clear A410
                                    by_cases c42 : t191 = (x7_8.size : Int)
                                    · rw [if_pos c42] at H
                                      have c42b0 : (t191 == (x7_8.size : Int)) = true := beq_iff_eq.mpr c42
                                      have c42b1 : (t191 != (x7_8.size : Int)) = false := bne_eq_false_iff_eq.mpr c42
                                      clear c42
                                      replace H := Option.bind_eq_some_iff.mp H
                                      obtain ⟨t192, A430, H⟩ := H
                                      replace H : (some t192) = some r := H
                                      have A43 := Aside0.mk A430
                                      clear A430
                                      obtain rfl := Option.some.inj H
                                      go_wp2_with (first | ((with_reducible refine gate_callee (f := 12) rfl ?_); refine goesL_ (some 66) rfl rfl Try.func12 (by kernel_rfl) rfl #[.string (((x7_8 ++ x9_3) ++ (⟨#[10]⟩ : ByteArray)) ++ a2), .int .i64 0] rfl (by (try simp only [List.map_toArray, List.map_cons, List.map_nil]); first | done | rfl | (simp only [List.length_drop, List.length_take]; rfl)) ?_; (with_reducible refine (lex_Skip.calls k3 (((x7_8 ++ x9_3) ++ (⟨#[10]⟩ : ByteArray)) ++ a2) 0 t187 _ A31.out).mono ?_); rintro e w44 ⟨rfl, hb⟩; refine ⟨_, rfl, ?_⟩; have n0_ := Aside0.mk (below_step (by repeat (first | (with_reducible first | exact HB.out | apply below_alloc | apply pw_below_drewN | apply below_drew1) | exact HB.out)) hb); clear HB; have HB := n0_; clear n0_; (try clear hb); (try clear hb2); (try clear hk); (try clear hi)) | ((with_reducible refine gate_callee (f := 12) rfl ?_); refine goesL_ (some 71) rfl rfl Try.func12 (by kernel_rfl) rfl #[.string ((x7_8 ++ (⟨#[120]⟩ : ByteArray)) ++ a2), .int .i64 0] rfl (by (try simp only [List.map_toArray, List.map_cons, List.map_nil]); first | done | rfl | (simp only [List.length_drop, List.length_take]; rfl)) ?_; (with_reducible refine (lex_Skip.calls k3 ((x7_8 ++ (⟨#[120]⟩ : ByteArray)) ++ a2) 0 t188 _ A34.out).mono ?_); rintro e w45 ⟨rfl, hb⟩; refine ⟨_, rfl, ?_⟩; have n0_ := Aside0.mk (below_step (by repeat (first | (with_reducible first | exact HB.out | apply below_alloc | apply pw_below_drewN | apply below_drew1) | exact HB.out)) hb); clear HB; have HB := n0_; clear n0_; (try clear hb); (try clear hb2); (try clear hk); (try clear hi)) | (go_at_call 12; (with_reducible refine (lex_Skip.calls k3 x7_8 0 t189 _ A37.out).mono ?_); rintro e w46 ⟨rfl, hb⟩; have n0_ := Aside0.mk (below_step (by repeat (first | (with_reducible first | exact HB.out | apply below_alloc | apply pw_below_drewN | apply below_drew1) | exact HB.out)) hb); clear HB; have HB := n0_; clear n0_; (try clear hb); (try clear hb2); (try clear hk); (try clear hi)) | (go_at_call 12; (with_reducible refine (lex_Skip.calls k3 x7_8 (-5) t190 _ A39.out).mono ?_); rintro e w47 ⟨rfl, hb⟩; have n0_ := Aside0.mk (below_step (by repeat (first | (with_reducible first | exact HB.out | apply below_alloc | apply pw_below_drewN | apply below_drew1) | exact HB.out)) hb); clear HB; have HB := n0_; clear n0_; (try clear hb); (try clear hb2); (try clear hk); (try clear hi)) | (go_at_call 12; (with_reducible refine (lex_Skip.calls k3 x7_8 4611686018427387904 t191 _ A41.out).mono ?_); rintro e w48 ⟨rfl, hb⟩; have n0_ := Aside0.mk (below_step (by repeat (first | (with_reducible first | exact HB.out | apply below_alloc | apply pw_below_drewN | apply below_drew1) | exact HB.out)) hb); clear HB; have HB := n0_; clear n0_; (try clear hb); (try clear hb2); (try clear hk); (try clear hi)) | (go_at_call 10; (with_reducible refine (conchlaw9_awake.calls k3  t192 _ A43.out).mono ?_); rintro e w49 ⟨rfl, hb⟩; have n0_ := Aside0.mk (below_step (by repeat (first | (with_reducible first | exact HB.out | apply below_alloc | apply pw_below_drewN | apply below_drew1) | exact HB.out)) hb); clear HB; have HB := n0_; clear n0_; (try clear hb); (try clear hb2); (try clear hk); (try clear hi)))
                                      go_ret
                                      exact ⟨by first | rfl | (simp [errW_none, errW_some] <;> rfl) | (simp [*, errW_none, errW_some] <;> rfl), by repeat (first | (with_reducible first | exact HB.out | apply below_alloc | apply pw_below_drewN | apply below_drew1) | exact HB.out)⟩
                                    · rw [if_neg c42] at H
                                      have c42b0 : (t191 == (x7_8.size : Int)) = false := beq_eq_false_iff_ne.mpr c42
                                      have c42b1 : (t191 != (x7_8.size : Int)) = true := bne_iff_ne.mpr c42
                                      obtain rfl := Option.some.inj H
                                      go_wp2_with (first | ((with_reducible refine gate_callee (f := 12) rfl ?_); refine goesL_ (some 66) rfl rfl Try.func12 (by kernel_rfl) rfl #[.string (((x7_8 ++ x9_3) ++ (⟨#[10]⟩ : ByteArray)) ++ a2), .int .i64 0] rfl (by (try simp only [List.map_toArray, List.map_cons, List.map_nil]); first | done | rfl | (simp only [List.length_drop, List.length_take]; rfl)) ?_; (with_reducible refine (lex_Skip.calls k3 (((x7_8 ++ x9_3) ++ (⟨#[10]⟩ : ByteArray)) ++ a2) 0 t187 _ A31.out).mono ?_); rintro e w50 ⟨rfl, hb⟩; refine ⟨_, rfl, ?_⟩; have n0_ := Aside0.mk (below_step (by repeat (first | (with_reducible first | exact HB.out | apply below_alloc | apply pw_below_drewN | apply below_drew1) | exact HB.out)) hb); clear HB; have HB := n0_; clear n0_; (try clear hb); (try clear hb2); (try clear hk); (try clear hi)) | ((with_reducible refine gate_callee (f := 12) rfl ?_); refine goesL_ (some 71) rfl rfl Try.func12 (by kernel_rfl) rfl #[.string ((x7_8 ++ (⟨#[120]⟩ : ByteArray)) ++ a2), .int .i64 0] rfl (by (try simp only [List.map_toArray, List.map_cons, List.map_nil]); first | done | rfl | (simp only [List.length_drop, List.length_take]; rfl)) ?_; (with_reducible refine (lex_Skip.calls k3 ((x7_8 ++ (⟨#[120]⟩ : ByteArray)) ++ a2) 0 t188 _ A34.out).mono ?_); rintro e w51 ⟨rfl, hb⟩; refine ⟨_, rfl, ?_⟩; have n0_ := Aside0.mk (below_step (by repeat (first | (with_reducible first | exact HB.out | apply below_alloc | apply pw_below_drewN | apply below_drew1) | exact HB.out)) hb); clear HB; have HB := n0_; clear n0_; (try clear hb); (try clear hb2); (try clear hk); (try clear hi)) | (go_at_call 12; (with_reducible refine (lex_Skip.calls k3 x7_8 0 t189 _ A37.out).mono ?_); rintro e w52 ⟨rfl, hb⟩; have n0_ := Aside0.mk (below_step (by repeat (first | (with_reducible first | exact HB.out | apply below_alloc | apply pw_below_drewN | apply below_drew1) | exact HB.out)) hb); clear HB; have HB := n0_; clear n0_; (try clear hb); (try clear hb2); (try clear hk); (try clear hi)) | (go_at_call 12; (with_reducible refine (lex_Skip.calls k3 x7_8 (-5) t190 _ A39.out).mono ?_); rintro e w53 ⟨rfl, hb⟩; have n0_ := Aside0.mk (below_step (by repeat (first | (with_reducible first | exact HB.out | apply below_alloc | apply pw_below_drewN | apply below_drew1) | exact HB.out)) hb); clear HB; have HB := n0_; clear n0_; (try clear hb); (try clear hb2); (try clear hk); (try clear hi)) | (go_at_call 12; (with_reducible refine (lex_Skip.calls k3 x7_8 4611686018427387904 t191 _ A41.out).mono ?_); rintro e w54 ⟨rfl, hb⟩; have n0_ := Aside0.mk (below_step (by repeat (first | (with_reducible first | exact HB.out | apply below_alloc | apply pw_below_drewN | apply below_drew1) | exact HB.out)) hb); clear HB; have HB := n0_; clear n0_; (try clear hb); (try clear hb2); (try clear hk); (try clear hi)))
                                      go_ret
                                      exact ⟨by first | rfl | (simp [errW_none, errW_some] <;> rfl) | (simp [*, errW_none, errW_some] <;> rfl), by repeat (first | (with_reducible first | exact HB.out | apply below_alloc | apply pw_below_drewN | apply below_drew1) | exact HB.out)⟩
                                  · rw [if_neg c40] at H
                                    have c40b0 : (t190 == (x7_8.size : Int)) = false := beq_eq_false_iff_ne.mpr c40
                                    have c40b1 : (t190 != (x7_8.size : Int)) = true := bne_iff_ne.mpr c40
                                    obtain rfl := Option.some.inj H
                                    go_wp2_with (first | ((with_reducible refine gate_callee (f := 12) rfl ?_); refine goesL_ (some 66) rfl rfl Try.func12 (by kernel_rfl) rfl #[.string (((x7_8 ++ x9_3) ++ (⟨#[10]⟩ : ByteArray)) ++ a2), .int .i64 0] rfl (by (try simp only [List.map_toArray, List.map_cons, List.map_nil]); first | done | rfl | (simp only [List.length_drop, List.length_take]; rfl)) ?_; (with_reducible refine (lex_Skip.calls k3 (((x7_8 ++ x9_3) ++ (⟨#[10]⟩ : ByteArray)) ++ a2) 0 t187 _ A31.out).mono ?_); rintro e w55 ⟨rfl, hb⟩; refine ⟨_, rfl, ?_⟩; have n0_ := Aside0.mk (below_step (by repeat (first | (with_reducible first | exact HB.out | apply below_alloc | apply pw_below_drewN | apply below_drew1) | exact HB.out)) hb); clear HB; have HB := n0_; clear n0_; (try clear hb); (try clear hb2); (try clear hk); (try clear hi)) | ((with_reducible refine gate_callee (f := 12) rfl ?_); refine goesL_ (some 71) rfl rfl Try.func12 (by kernel_rfl) rfl #[.string ((x7_8 ++ (⟨#[120]⟩ : ByteArray)) ++ a2), .int .i64 0] rfl (by (try simp only [List.map_toArray, List.map_cons, List.map_nil]); first | done | rfl | (simp only [List.length_drop, List.length_take]; rfl)) ?_; (with_reducible refine (lex_Skip.calls k3 ((x7_8 ++ (⟨#[120]⟩ : ByteArray)) ++ a2) 0 t188 _ A34.out).mono ?_); rintro e w56 ⟨rfl, hb⟩; refine ⟨_, rfl, ?_⟩; have n0_ := Aside0.mk (below_step (by repeat (first | (with_reducible first | exact HB.out | apply below_alloc | apply pw_below_drewN | apply below_drew1) | exact HB.out)) hb); clear HB; have HB := n0_; clear n0_; (try clear hb); (try clear hb2); (try clear hk); (try clear hi)) | (go_at_call 12; (with_reducible refine (lex_Skip.calls k3 x7_8 0 t189 _ A37.out).mono ?_); rintro e w57 ⟨rfl, hb⟩; have n0_ := Aside0.mk (below_step (by repeat (first | (with_reducible first | exact HB.out | apply below_alloc | apply pw_below_drewN | apply below_drew1) | exact HB.out)) hb); clear HB; have HB := n0_; clear n0_; (try clear hb); (try clear hb2); (try clear hk); (try clear hi)) | (go_at_call 12; (with_reducible refine (lex_Skip.calls k3 x7_8 (-5) t190 _ A39.out).mono ?_); rintro e w58 ⟨rfl, hb⟩; have n0_ := Aside0.mk (below_step (by repeat (first | (with_reducible first | exact HB.out | apply below_alloc | apply pw_below_drewN | apply below_drew1) | exact HB.out)) hb); clear HB; have HB := n0_; clear n0_; (try clear hb); (try clear hb2); (try clear hk); (try clear hi)))
                                    go_ret
                                    exact ⟨by first | rfl | (simp [errW_none, errW_some] <;> rfl) | (simp [*, errW_none, errW_some] <;> rfl), by repeat (first | (with_reducible first | exact HB.out | apply below_alloc | apply pw_below_drewN | apply below_drew1) | exact HB.out)⟩
                                · rw [if_neg c38] at H
                                  have c38b0 : (t189 == (x7_8.size : Int)) = false := beq_eq_false_iff_ne.mpr c38
                                  have c38b1 : (t189 != (x7_8.size : Int)) = true := bne_iff_ne.mpr c38
                                  obtain rfl := Option.some.inj H
                                  go_wp2_with (first | ((with_reducible refine gate_callee (f := 12) rfl ?_); refine goesL_ (some 66) rfl rfl Try.func12 (by kernel_rfl) rfl #[.string (((x7_8 ++ x9_3) ++ (⟨#[10]⟩ : ByteArray)) ++ a2), .int .i64 0] rfl (by (try simp only [List.map_toArray, List.map_cons, List.map_nil]); first | done | rfl | (simp only [List.length_drop, List.length_take]; rfl)) ?_; (with_reducible refine (lex_Skip.calls k3 (((x7_8 ++ x9_3) ++ (⟨#[10]⟩ : ByteArray)) ++ a2) 0 t187 _ A31.out).mono ?_); rintro e w59 ⟨rfl, hb⟩; refine ⟨_, rfl, ?_⟩; have n0_ := Aside0.mk (below_step (by repeat (first | (with_reducible first | exact HB.out | apply below_alloc | apply pw_below_drewN | apply below_drew1) | exact HB.out)) hb); clear HB; have HB := n0_; clear n0_; (try clear hb); (try clear hb2); (try clear hk); (try clear hi)) | ((with_reducible refine gate_callee (f := 12) rfl ?_); refine goesL_ (some 71) rfl rfl Try.func12 (by kernel_rfl) rfl #[.string ((x7_8 ++ (⟨#[120]⟩ : ByteArray)) ++ a2), .int .i64 0] rfl (by (try simp only [List.map_toArray, List.map_cons, List.map_nil]); first | done | rfl | (simp only [List.length_drop, List.length_take]; rfl)) ?_; (with_reducible refine (lex_Skip.calls k3 ((x7_8 ++ (⟨#[120]⟩ : ByteArray)) ++ a2) 0 t188 _ A34.out).mono ?_); rintro e w60 ⟨rfl, hb⟩; refine ⟨_, rfl, ?_⟩; have n0_ := Aside0.mk (below_step (by repeat (first | (with_reducible first | exact HB.out | apply below_alloc | apply pw_below_drewN | apply below_drew1) | exact HB.out)) hb); clear HB; have HB := n0_; clear n0_; (try clear hb); (try clear hb2); (try clear hk); (try clear hi)) | (go_at_call 12; (with_reducible refine (lex_Skip.calls k3 x7_8 0 t189 _ A37.out).mono ?_); rintro e w61 ⟨rfl, hb⟩; have n0_ := Aside0.mk (below_step (by repeat (first | (with_reducible first | exact HB.out | apply below_alloc | apply pw_below_drewN | apply below_drew1) | exact HB.out)) hb); clear HB; have HB := n0_; clear n0_; (try clear hb); (try clear hb2); (try clear hk); (try clear hi)))
                                  go_ret
                                  exact ⟨by first | rfl | (simp [errW_none, errW_some] <;> rfl) | (simp [*, errW_none, errW_some] <;> rfl), by repeat (first | (with_reducible first | exact HB.out | apply below_alloc | apply pw_below_drewN | apply below_drew1) | exact HB.out)⟩
                              · rw [if_neg c36] at H
                                have c36b0 : (t188 == (x7_8.size : Int)) = false := beq_eq_false_iff_ne.mpr c36
                                have c36b1 : (t188 != (x7_8.size : Int)) = true := bne_iff_ne.mpr c36
                                obtain rfl := Option.some.inj H
                                go_wp2_with (first | ((with_reducible refine gate_callee (f := 12) rfl ?_); refine goesL_ (some 66) rfl rfl Try.func12 (by kernel_rfl) rfl #[.string (((x7_8 ++ x9_3) ++ (⟨#[10]⟩ : ByteArray)) ++ a2), .int .i64 0] rfl (by (try simp only [List.map_toArray, List.map_cons, List.map_nil]); first | done | rfl | (simp only [List.length_drop, List.length_take]; rfl)) ?_; (with_reducible refine (lex_Skip.calls k3 (((x7_8 ++ x9_3) ++ (⟨#[10]⟩ : ByteArray)) ++ a2) 0 t187 _ A31.out).mono ?_); rintro e w62 ⟨rfl, hb⟩; refine ⟨_, rfl, ?_⟩; have n0_ := Aside0.mk (below_step (by repeat (first | (with_reducible first | exact HB.out | apply below_alloc | apply pw_below_drewN | apply below_drew1) | exact HB.out)) hb); clear HB; have HB := n0_; clear n0_; (try clear hb); (try clear hb2); (try clear hk); (try clear hi)) | ((with_reducible refine gate_callee (f := 12) rfl ?_); refine goesL_ (some 71) rfl rfl Try.func12 (by kernel_rfl) rfl #[.string ((x7_8 ++ (⟨#[120]⟩ : ByteArray)) ++ a2), .int .i64 0] rfl (by (try simp only [List.map_toArray, List.map_cons, List.map_nil]); first | done | rfl | (simp only [List.length_drop, List.length_take]; rfl)) ?_; (with_reducible refine (lex_Skip.calls k3 ((x7_8 ++ (⟨#[120]⟩ : ByteArray)) ++ a2) 0 t188 _ A34.out).mono ?_); rintro e w63 ⟨rfl, hb⟩; refine ⟨_, rfl, ?_⟩; have n0_ := Aside0.mk (below_step (by repeat (first | (with_reducible first | exact HB.out | apply below_alloc | apply pw_below_drewN | apply below_drew1) | exact HB.out)) hb); clear HB; have HB := n0_; clear n0_; (try clear hb); (try clear hb2); (try clear hk); (try clear hi)))
                                go_ret
                                exact ⟨by first | rfl | (simp [errW_none, errW_some] <;> rfl) | (simp [*, errW_none, errW_some] <;> rfl), by repeat (first | (with_reducible first | exact HB.out | apply below_alloc | apply pw_below_drewN | apply below_drew1) | exact HB.out)⟩
                            · rw [if_neg c35] at H
                              have c35b0 : (t187 == (wrap64 ((x7_8.size : Int) + (x9_3.size : Int)))) = false := beq_eq_false_iff_ne.mpr c35
                              try (have c35b0w := c35b0; rw [show wrap64 ((x7_8.size : Int) + (x9_3.size : Int)) = (x7_8.size : Int) + (x9_3.size : Int) from by unfold wrap64; omega] at c35b0w)
                              have c35b1 : (t187 != (wrap64 ((x7_8.size : Int) + (x9_3.size : Int)))) = true := bne_iff_ne.mpr c35
                              try (have c35b1w := c35b1; rw [show wrap64 ((x7_8.size : Int) + (x9_3.size : Int)) = (x7_8.size : Int) + (x9_3.size : Int) from by unfold wrap64; omega] at c35b1w)
                              obtain rfl := Option.some.inj H
                              go_wp2_with (first | ((with_reducible refine gate_callee (f := 12) rfl ?_); refine goesL_ (some 66) rfl rfl Try.func12 (by kernel_rfl) rfl #[.string (((x7_8 ++ x9_3) ++ (⟨#[10]⟩ : ByteArray)) ++ a2), .int .i64 0] rfl (by (try simp only [List.map_toArray, List.map_cons, List.map_nil]); first | done | rfl | (simp only [List.length_drop, List.length_take]; rfl)) ?_; (with_reducible refine (lex_Skip.calls k3 (((x7_8 ++ x9_3) ++ (⟨#[10]⟩ : ByteArray)) ++ a2) 0 t187 _ A31.out).mono ?_); rintro e w64 ⟨rfl, hb⟩; refine ⟨_, rfl, ?_⟩; have n0_ := Aside0.mk (below_step (by repeat (first | (with_reducible first | exact HB.out | apply below_alloc | apply pw_below_drewN | apply below_drew1) | exact HB.out)) hb); clear HB; have HB := n0_; clear n0_; (try clear hb); (try clear hb2); (try clear hk); (try clear hi)) | ((with_reducible refine gate_callee (f := 12) rfl ?_); refine goesL_ (some 71) rfl rfl Try.func12 (by kernel_rfl) rfl #[.string ((x7_8 ++ (⟨#[120]⟩ : ByteArray)) ++ a2), .int .i64 0] rfl (by (try simp only [List.map_toArray, List.map_cons, List.map_nil]); first | done | rfl | (simp only [List.length_drop, List.length_take]; rfl)) ?_; (with_reducible refine (lex_Skip.calls k3 ((x7_8 ++ (⟨#[120]⟩ : ByteArray)) ++ a2) 0 t188 _ A34.out).mono ?_); rintro e w65 ⟨rfl, hb⟩; refine ⟨_, rfl, ?_⟩; have n0_ := Aside0.mk (below_step (by repeat (first | (with_reducible first | exact HB.out | apply below_alloc | apply pw_below_drewN | apply below_drew1) | exact HB.out)) hb); clear HB; have HB := n0_; clear n0_; (try clear hb); (try clear hb2); (try clear hk); (try clear hi)))
                              go_ret
                              exact ⟨by first | rfl | (simp [errW_none, errW_some] <;> rfl) | (simp [*, errW_none, errW_some] <;> rfl), by repeat (first | (with_reducible first | exact HB.out | apply below_alloc | apply pw_below_drewN | apply below_drew1) | exact HB.out)⟩
                          · rw [if_neg c33] at H
                            exact absurd H (by simp)
                        · rw [if_neg c32] at H
                          exact absurd H (by simp)
                      · rw [if_neg c30] at H
                        exact absurd H (by simp)
                    · rw [if_neg c29] at H
                      exact absurd H (by simp)
                  · rw [if_neg c28] at H
                    exact absurd H (by simp)

/-- THE ONE PURE STATEMENT of conchlaw9_LexSkips: yours. -/
def conchlaw9_LexSkips.Pure : Prop := ∀ (l0 : List Int) (a1 : ByteArray) (a2 : ByteArray), l0.length ≤ maxLen → l0.length * 8 ≤ 140737488351232 → (∀ x ∈ l0, (Lit.int .i64 x).wf = true) → a1.size ≤ 140737488351232 → a2.size ≤ 140737488351232 → ∃ k, conchlaw9_LexSkips.f k l0 a1 a2 = some true
theorem conchlaw9_LexSkips.walk (P : conchlaw9_LexSkips.Pure) (a0 : Option Addr) (len0 cap0 : Nat) (z0 : List Int) (a1 : ByteArray) (a2 : ByteArray) (w : World) (w0 : (a0 = none ∧ len0 = 0 ∧ cap0 = 0 ∧ z0 = []) ∨ ∃ x, a0 = some x ∧ len0 ≤ cap0 ∧ cap0 ≤ maxLen ∧ z0.length = cap0 ∧ (∀ i, i < z0.length → w.cell? (x.add i) = some (.int .i64 (z0.getD i 0))) ∧ ∀ n ∈ z0, (Lit.int .i64 n).wf = true) (y0 : len0 * 8 ≤ 140737488351232) (w1 : a1.size ≤ 140737488351232) (w2 : a2.size ≤ 140737488351232) :
    Calls Try.prog 6 #[.slice a0 len0 cap0, .string a1, .string a2] w fun e w' => e = .returned (.bool true) ∧ Below w.heap.size w w' := by
  obtain ⟨l0, rfl, hr0, hm0, hw0, hc0⟩ := ReadsInt.ofRowC w0
  obtain ⟨k, h⟩ := P l0 a1 a2 hm0 y0 hw0 w1 w2
  refine (conchlaw9_LexSkips.calls k _ _ l0 a1 a2 true w (Kd.C_of_reads (d := (0 : Int)) (h1 := fun _ => rfl) hr0) hc0 h).mono ?_
  rintro e w' ⟨rfl, hd⟩
  exact ⟨rfl, hd⟩

end Go.Proofs.Ytemdfhadijdddaa.PAll
